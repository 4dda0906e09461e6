/- Lemmas for this claim, in parts: Nsown2, Nsdef, Nsdef2, Nsent2. -/
import Derived.Test.YtoalboilghgalaaGreatDoorB01
import Derived.Test.YtoalboilghgalaaGreatDoorB39
import Derived.Test.YtoalboilghgalaaGreatDoorB37
import Derived.Test.YtoalboilghgalaaGreatDoorB38
set_option maxRecDepth 100000
set_option maxHeartbeats 4000000
set_option linter.unusedVariables false
set_option linter.unusedSimpArgs false
/- A namespace: the closure of EnterGetOwnProperty, EnterGetOwnProperty, of a string. -/
namespace Go.Proofs.YtoalboilghgalaaGreatDoor
open Go.RowKit
open Go.Proofs.Dc (V Ds Ky)
attribute [local go_sem] run_store_float

theorem xcown_none {n0 : Nat} {w : World} {hb : Nat} {ov : Value} {ob : Nat} {tp : Option Addr} {cap fuel deep : Int} {xb : Nat} {ext : Bool} {L : List (Ky × Ds)} {bh bi bk : Nat} {g xc : Nat} {a : Option Addr} {l : List Ex} (hX : XAt w xb g xc a l) (q : ByteArray) (hq : q.size + 2 ≤ 1099511627776) (hf : 0 < fuel ∧ fuel ≤ 9223372036854775807) (hd : 0 ≤ deep ∧ deep < 10) (hI : xIdx l q = none) (cur : Bag n0 w w hb ov ob tp cap fuel deep (kN xb) ext L [(bk, #[.string q, .int .i64 0], 40), (bi, #[.int .i64 1], 3), (bh, #[.pointer (some ⟨hb, 0, none⟩)], 25)]) : Calls Tryz.prog 118 #[.pointer (some ⟨bh, 0, none⟩), .pointer (some ⟨bi, 0, none⟩), .pointer (some ⟨bk, 0, none⟩)] w (GivesE (fun x => .agg (wArr x)) (fun x f e l _ => x = (Dc.d0, false) ∧ f = fuel ∧ e = ext ∧ l = L) n0 w hb ov ob cap deep (kN xb)) := by
  have hm := xmGetOwnProperty xb
  have hmv : (kN xb).mv = .iface 157 (.pointer (some ⟨xb, 0, none⟩)) := rfl
  go_enter Tryz.func118, Tryz.ntmps118
  go_wp2_with ((with_reducible show wpList _ _ _ (⟨_, .alloc 192, _, _, _, _⟩ :: _) _ _); refine wpList_alloc_blk rfl 192 rfl (wArr (Dc.d0, false)) zero192 ?_; intro wa hB hL hs; replace cur := cur.push hL hB (Nat.le_refl _) rfl; clear hB hL hs)
  refine Ord.region (fun W => Has W ([(bk, #[.string q, .int .i64 0], 40), (bi, #[.int .i64 1], 3), (bh, #[.pointer (some ⟨hb, 0, none⟩)], 25)])) [9, 10, 13, 14] (by kernel_rfl) (cur.drew.has (by simp)) ?_
  intro hS
  replace cur := cur.drew
  refine Ord.tk 0 9 rfl rfl (yields_load1 (by rfl) 25 _ rfl bh 0 rfl (.pointer (some ⟨hb, 0, none⟩)) Tryz.isAgg25 (fun W hSW => (hSW.blk 2 rfl).cell 0)) ?_
  refine Ord.tk 1 10 rfl rfl (yields_load1 (by rfl) 3 _ rfl bi 0 rfl (.int .i64 1) Tryz.isAgg3 (fun W hSW => (hSW.blk 1 rfl).cell 0)) ?_
  refine Ord.tk 3 12 rfl rfl (yields_load1 (by rfl) 25 _ rfl bh 0 rfl (.pointer (some ⟨hb, 0, none⟩)) Tryz.isAgg25 (fun W hSW => (hSW.blk 2 rfl).cell 0)) ?_
  refine Ord.tk 4 13 rfl rfl (yields_load1 (by rfl) 3 _ rfl bi 0 rfl (.int .i64 1) Tryz.isAgg3 (fun W hSW => (hSW.blk 1 rfl).cell 0)) ?_
  refine Ord.tk 5 14 rfl rfl (yieldsIf_load_mid (by rfl) 40 _ rfl bk 0 rfl ([.string q, .int .i64 0]) _ (fun W hSW => range_all (hSW.blk 0 rfl)) Tryz.underlying40 rfl Tryz.size40) ?_
  refine Ord.two (i := 2) (j := 11) rfl rfl (by kernel_rfl) (by rfl) (by rfl) ?_ ?_
  · intro K HK
    go_simp
    go_at_call 108
    refine (does_any cur.s).mono ?_
    rintro e wX ⟨rfl, rfl⟩
    refine HK.out _ _ ?_
    clear HK
    refine Ord.kp ?_ ?_
    · exact cur.has (by simp)
    clear hS
    intro hS
    try simp only [List.setIfInBounds_toArray, List.set_cons_zero, List.set_cons_succ]
    refine Ord.two (i := 6) (j := 11) rfl rfl (by kernel_rfl) (by rfl) (by rfl) ?_ ?_
    · intro K HK
      go_simp
      go_at_call 282
      refine (nown_none cur.s hf hd (hX.keeps cur.k) q hq hI).mono ?_
      rintro e wY ⟨tp2, rfl, s9, k9⟩
      replace cur := cur.go s9 k9
      clear s9 k9
      refine HK.out _ _ ?_
      clear HK
      refine Ord.kp ?_ ?_
      · exact cur.has (by simp)
      clear hS
      intro hS
      try simp only [List.setIfInBounds_toArray, List.set_cons_zero, List.set_cons_succ]
      refine Ord.tp 7 8 rfl rfl ?_
      refine Ord.tp 8 16 rfl rfl ?_
      refine Ord.tf 9 17 rfl rfl ?_
      refine Ord.tf 10 18 rfl rfl ?_
      refine Ord.step (i := 11) rfl (by kernel_rfl) (by rfl) ?_
      intro K HK
      refine alloc_op 43 rfl (dArr Dc.d0) zero43 ?_
      intro wh bA hBA hbe hLA
      have hgeA : w.heap.size ≤ bA := by have := cur.k.size; omega
      replace cur := cur.push hLA hBA (Nat.le_of_eq hbe.symm) rfl
      clear hbe hLA hBA
      refine HK.out _ _ ?_
      clear HK
      refine Ord.kp ?_ ?_
      · exact cur.has (by simp)
      clear hS
      intro hS
      try simp only [List.setIfInBounds_toArray, List.set_cons_zero, List.set_cons_succ]
      refine Ord.step (i := 12) rfl (by kernel_rfl) (by rfl) ?_
      intro K HK
      refine store_blk_op 43 (.tmp 5) (.tmp 16) rfl bA (dArr Dc.d0) (dArr Dc.d0) 43 rfl rfl (cur.blk 0 rfl) Tryz.size43 rfl (dCells_one _) ?_
      intro wi hBi hOi
      replace cur := cur.set 0 rfl hOi hBi hgeA
      clear hBi hOi
      refine HK.out _ _ ?_
      clear HK
      refine ⟨Ord.np (by kernel_rfl), ?_⟩
      try simp only [List.setIfInBounds_toArray, List.set_cons_zero, List.set_cons_succ]
      refine Ord.tf 13 6 rfl rfl ?_
      refine Ord.tf 14 7 rfl rfl ?_
      refine Ord.done (by kernel_rfl) ?_ _
      clear hS
      go_wp2_with (first | ((with_reducible show wpList _ _ _ (⟨_, .load 43 (.tmp 5), _, _, _, _⟩ :: _) _ _); refine wpList_load_blk rfl 43 _ rfl _ rfl (show Blk _ _ (#[.int .i64 Dc.d0.val.kind, .bool Dc.d0.val.bool, .float .f64 Dc.d0.val.num, .string Dc.d0.val.str, .int .i64 Dc.d0.val.id, .int .i64 Dc.d0.get.kind, .bool Dc.d0.get.bool, .float .f64 Dc.d0.get.num, .string Dc.d0.get.str, .int .i64 Dc.d0.get.id, .int .i64 Dc.d0.set.kind, .bool Dc.d0.set.bool, .float .f64 Dc.d0.set.num, .string Dc.d0.set.str, .int .i64 Dc.d0.set.id, .int .i64 Dc.d0.w, .int .i64 Dc.d0.e, .int .i64 Dc.d0.c]) 43 from cur.blk 0 rfl) Tryz.row43 Tryz.size43 ?_) | ((with_reducible show wpList _ _ _ (⟨_, .store 192 (.tmp 3) _, _, _, _, _⟩ :: _) _ _); refine wpList_store_blk rfl 192 _ _ rfl _ (wArr (Dc.d0, false)) _ 192 rfl rfl (cur.blk 1 rfl) Tryz.size192 rfl (wCells_one _) ?_; intro wq hB hO; replace cur := cur.set 1 rfl hO hB (Nat.le_refl _); clear hB hO))
      exact bodyPost_ret (results_cell_tmp Tryz.results118 rfl (cur.blk 1 rfl) Tryz.row192 Tryz.size192) rfl ⟨_, tp2, _, ext, L, rfl, cur.s, cur.k, rfl, rfl, rfl, rfl⟩
    · intro K HK
      refine alloc_op 43 rfl (dArr Dc.d0) zero43 ?_
      intro wh bA hBA hbe hLA
      have hgeA : w.heap.size ≤ bA := by have := cur.k.size; omega
      replace cur := cur.push hLA hBA (Nat.le_of_eq hbe.symm) rfl
      clear hbe hLA hBA
      refine HK.out _ _ ?_
      clear HK
      refine Ord.kp ?_ ?_
      · exact cur.has (by simp)
      clear hS
      intro hS
      try simp only [List.setIfInBounds_toArray, List.set_cons_zero, List.set_cons_succ]
      refine Ord.step (i := 6) rfl (by kernel_rfl) (by rfl) ?_
      intro K HK
      go_simp
      go_at_call 282
      refine (nown_none cur.s hf hd (hX.keeps cur.k) q hq hI).mono ?_
      rintro e wY ⟨tp2, rfl, s9, k9⟩
      replace cur := cur.go s9 k9
      clear s9 k9
      refine HK.out _ _ ?_
      clear HK
      refine Ord.kp ?_ ?_
      · exact cur.has (by simp)
      clear hS
      intro hS
      try simp only [List.setIfInBounds_toArray, List.set_cons_zero, List.set_cons_succ]
      refine Ord.tp 7 8 rfl rfl ?_
      refine Ord.tp 8 16 rfl rfl ?_
      refine Ord.tf 9 17 rfl rfl ?_
      refine Ord.tf 10 18 rfl rfl ?_
      refine Ord.step (i := 12) rfl (by kernel_rfl) (by rfl) ?_
      intro K HK
      refine store_blk_op 43 (.tmp 5) (.tmp 16) rfl bA (dArr Dc.d0) (dArr Dc.d0) 43 rfl rfl (cur.blk 0 rfl) Tryz.size43 rfl (dCells_one _) ?_
      intro wi hBi hOi
      replace cur := cur.set 0 rfl hOi hBi hgeA
      clear hBi hOi
      refine HK.out _ _ ?_
      clear HK
      refine ⟨Ord.np (by kernel_rfl), ?_⟩
      try simp only [List.setIfInBounds_toArray, List.set_cons_zero, List.set_cons_succ]
      refine Ord.tf 13 6 rfl rfl ?_
      refine Ord.tf 14 7 rfl rfl ?_
      refine Ord.done (by kernel_rfl) ?_ _
      clear hS
      go_wp2_with (first | ((with_reducible show wpList _ _ _ (⟨_, .load 43 (.tmp 5), _, _, _, _⟩ :: _) _ _); refine wpList_load_blk rfl 43 _ rfl _ rfl (show Blk _ _ (#[.int .i64 Dc.d0.val.kind, .bool Dc.d0.val.bool, .float .f64 Dc.d0.val.num, .string Dc.d0.val.str, .int .i64 Dc.d0.val.id, .int .i64 Dc.d0.get.kind, .bool Dc.d0.get.bool, .float .f64 Dc.d0.get.num, .string Dc.d0.get.str, .int .i64 Dc.d0.get.id, .int .i64 Dc.d0.set.kind, .bool Dc.d0.set.bool, .float .f64 Dc.d0.set.num, .string Dc.d0.set.str, .int .i64 Dc.d0.set.id, .int .i64 Dc.d0.w, .int .i64 Dc.d0.e, .int .i64 Dc.d0.c]) 43 from cur.blk 0 rfl) Tryz.row43 Tryz.size43 ?_) | ((with_reducible show wpList _ _ _ (⟨_, .store 192 (.tmp 3) _, _, _, _, _⟩ :: _) _ _); refine wpList_store_blk rfl 192 _ _ rfl _ (wArr (Dc.d0, false)) _ 192 rfl rfl (cur.blk 1 rfl) Tryz.size192 rfl (wCells_one _) ?_; intro wq hB hO; replace cur := cur.set 1 rfl hO hB (Nat.le_refl _); clear hB hO))
      exact bodyPost_ret (results_cell_tmp Tryz.results118 rfl (cur.blk 1 rfl) Tryz.row192 Tryz.size192) rfl ⟨_, tp2, _, ext, L, rfl, cur.s, cur.k, rfl, rfl, rfl, rfl⟩
  · intro K HK
    refine alloc_op 43 rfl (dArr Dc.d0) zero43 ?_
    intro wh bA hBA hbe hLA
    have hgeA : w.heap.size ≤ bA := by have := cur.k.size; omega
    replace cur := cur.push hLA hBA (Nat.le_of_eq hbe.symm) rfl
    clear hbe hLA hBA
    refine HK.out _ _ ?_
    clear HK
    refine Ord.kp ?_ ?_
    · exact cur.has (by simp)
    clear hS
    intro hS
    try simp only [List.setIfInBounds_toArray, List.set_cons_zero, List.set_cons_succ]
    refine Ord.step (i := 2) rfl (by kernel_rfl) (by rfl) ?_
    intro K HK
    go_simp
    go_at_call 108
    refine (does_any cur.s).mono ?_
    rintro e wX ⟨rfl, rfl⟩
    refine HK.out _ _ ?_
    clear HK
    refine Ord.kp ?_ ?_
    · exact cur.has (by simp)
    clear hS
    intro hS
    try simp only [List.setIfInBounds_toArray, List.set_cons_zero, List.set_cons_succ]
    refine Ord.step (i := 6) rfl (by kernel_rfl) (by rfl) ?_
    intro K HK
    go_simp
    go_at_call 282
    refine (nown_none cur.s hf hd (hX.keeps cur.k) q hq hI).mono ?_
    rintro e wY ⟨tp2, rfl, s9, k9⟩
    replace cur := cur.go s9 k9
    clear s9 k9
    refine HK.out _ _ ?_
    clear HK
    refine Ord.kp ?_ ?_
    · exact cur.has (by simp)
    clear hS
    intro hS
    try simp only [List.setIfInBounds_toArray, List.set_cons_zero, List.set_cons_succ]
    refine Ord.tp 7 8 rfl rfl ?_
    refine Ord.tp 8 16 rfl rfl ?_
    refine Ord.tf 9 17 rfl rfl ?_
    refine Ord.tf 10 18 rfl rfl ?_
    refine Ord.step (i := 12) rfl (by kernel_rfl) (by rfl) ?_
    intro K HK
    refine store_blk_op 43 (.tmp 5) (.tmp 16) rfl bA (dArr Dc.d0) (dArr Dc.d0) 43 rfl rfl (cur.blk 0 rfl) Tryz.size43 rfl (dCells_one _) ?_
    intro wi hBi hOi
    replace cur := cur.set 0 rfl hOi hBi hgeA
    clear hBi hOi
    refine HK.out _ _ ?_
    clear HK
    refine ⟨Ord.np (by kernel_rfl), ?_⟩
    try simp only [List.setIfInBounds_toArray, List.set_cons_zero, List.set_cons_succ]
    refine Ord.tf 13 6 rfl rfl ?_
    refine Ord.tf 14 7 rfl rfl ?_
    refine Ord.done (by kernel_rfl) ?_ _
    clear hS
    go_wp2_with (first | ((with_reducible show wpList _ _ _ (⟨_, .load 43 (.tmp 5), _, _, _, _⟩ :: _) _ _); refine wpList_load_blk rfl 43 _ rfl _ rfl (show Blk _ _ (#[.int .i64 Dc.d0.val.kind, .bool Dc.d0.val.bool, .float .f64 Dc.d0.val.num, .string Dc.d0.val.str, .int .i64 Dc.d0.val.id, .int .i64 Dc.d0.get.kind, .bool Dc.d0.get.bool, .float .f64 Dc.d0.get.num, .string Dc.d0.get.str, .int .i64 Dc.d0.get.id, .int .i64 Dc.d0.set.kind, .bool Dc.d0.set.bool, .float .f64 Dc.d0.set.num, .string Dc.d0.set.str, .int .i64 Dc.d0.set.id, .int .i64 Dc.d0.w, .int .i64 Dc.d0.e, .int .i64 Dc.d0.c]) 43 from cur.blk 0 rfl) Tryz.row43 Tryz.size43 ?_) | ((with_reducible show wpList _ _ _ (⟨_, .store 192 (.tmp 3) _, _, _, _, _⟩ :: _) _ _); refine wpList_store_blk rfl 192 _ _ rfl _ (wArr (Dc.d0, false)) _ 192 rfl rfl (cur.blk 1 rfl) Tryz.size192 rfl (wCells_one _) ?_; intro wq hB hO; replace cur := cur.set 1 rfl hO hB (Nat.le_refl _); clear hB hO))
    exact bodyPost_ret (results_cell_tmp Tryz.results118 rfl (cur.blk 1 rfl) Tryz.row192 Tryz.size192) rfl ⟨_, tp2, _, ext, L, rfl, cur.s, cur.k, rfl, rfl, rfl, rfl⟩


theorem xcown_some {n0 : Nat} {w : World} {hb : Nat} {ov : Value} {ob : Nat} {tp : Option Addr} {cap fuel deep : Int} {xb : Nat} {ext : Bool} {L : List (Ky × Ds)} {bh bi bk : Nat} {g xc : Nat} {a : Option Addr} {l : List Ex} (hX : XAt w xb g xc a l) (q : ByteArray) (hq : q.size + 2 ≤ 1099511627776) (hf : 0 < fuel ∧ fuel ≤ 9223372036854775807) (hd : 0 ≤ deep ∧ deep < 10) {i : Nat} {z : Ex} (hI : xIdx l q = some i) (hx : l[i]? = some z) (h0 : ¬ z.val.kind = 0) (cur : Bag n0 w w hb ov ob tp cap fuel deep (kN xb) ext L [(bk, #[.string q, .int .i64 0], 40), (bi, #[.int .i64 1], 3), (bh, #[.pointer (some ⟨hb, 0, none⟩)], 25)]) : Calls Tryz.prog 118 #[.pointer (some ⟨bh, 0, none⟩), .pointer (some ⟨bi, 0, none⟩), .pointer (some ⟨bk, 0, none⟩)] w (GivesE (fun x => .agg (wArr x)) (fun x f e l _ => x = ((xDs z.val), true) ∧ f = fuel - 1 ∧ e = ext ∧ l = L) n0 w hb ov ob cap deep (kN xb)) := by
  have hm := xmGetOwnProperty xb
  have hmv : (kN xb).mv = .iface 157 (.pointer (some ⟨xb, 0, none⟩)) := rfl
  go_enter Tryz.func118, Tryz.ntmps118
  go_wp2_with ((with_reducible show wpList _ _ _ (⟨_, .alloc 192, _, _, _, _⟩ :: _) _ _); refine wpList_alloc_blk rfl 192 rfl (wArr (Dc.d0, false)) zero192 ?_; intro wa hB hL hs; replace cur := cur.push hL hB (Nat.le_refl _) rfl; clear hB hL hs)
  refine Ord.region (fun W => Has W ([(bk, #[.string q, .int .i64 0], 40), (bi, #[.int .i64 1], 3), (bh, #[.pointer (some ⟨hb, 0, none⟩)], 25)])) [9, 10, 13, 14] (by kernel_rfl) (cur.drew.has (by simp)) ?_
  intro hS
  replace cur := cur.drew
  refine Ord.tk 0 9 rfl rfl (yields_load1 (by rfl) 25 _ rfl bh 0 rfl (.pointer (some ⟨hb, 0, none⟩)) Tryz.isAgg25 (fun W hSW => (hSW.blk 2 rfl).cell 0)) ?_
  refine Ord.tk 1 10 rfl rfl (yields_load1 (by rfl) 3 _ rfl bi 0 rfl (.int .i64 1) Tryz.isAgg3 (fun W hSW => (hSW.blk 1 rfl).cell 0)) ?_
  refine Ord.tk 3 12 rfl rfl (yields_load1 (by rfl) 25 _ rfl bh 0 rfl (.pointer (some ⟨hb, 0, none⟩)) Tryz.isAgg25 (fun W hSW => (hSW.blk 2 rfl).cell 0)) ?_
  refine Ord.tk 4 13 rfl rfl (yields_load1 (by rfl) 3 _ rfl bi 0 rfl (.int .i64 1) Tryz.isAgg3 (fun W hSW => (hSW.blk 1 rfl).cell 0)) ?_
  refine Ord.tk 5 14 rfl rfl (yieldsIf_load_mid (by rfl) 40 _ rfl bk 0 rfl ([.string q, .int .i64 0]) _ (fun W hSW => range_all (hSW.blk 0 rfl)) Tryz.underlying40 rfl Tryz.size40) ?_
  refine Ord.two (i := 2) (j := 11) rfl rfl (by kernel_rfl) (by rfl) (by rfl) ?_ ?_
  · intro K HK
    go_simp
    go_at_call 108
    refine (does_any cur.s).mono ?_
    rintro e wX ⟨rfl, rfl⟩
    refine HK.out _ _ ?_
    clear HK
    refine Ord.kp ?_ ?_
    · exact cur.has (by simp)
    clear hS
    intro hS
    try simp only [List.setIfInBounds_toArray, List.set_cons_zero, List.set_cons_succ]
    refine Ord.two (i := 6) (j := 11) rfl rfl (by kernel_rfl) (by rfl) (by rfl) ?_ ?_
    · intro K HK
      go_simp
      go_at_call 282
      refine (nown_some cur.s hf hd (hX.keeps cur.k) q hq hI hx h0).mono ?_
      rintro e wY ⟨tp2, rfl, s9, k9⟩
      replace cur := cur.go s9 k9
      clear s9 k9
      refine HK.out _ _ ?_
      clear HK
      refine Ord.kp ?_ ?_
      · exact cur.has (by simp)
      clear hS
      intro hS
      try simp only [List.setIfInBounds_toArray, List.set_cons_zero, List.set_cons_succ]
      refine Ord.tp 7 8 rfl rfl ?_
      refine Ord.tp 8 16 rfl rfl ?_
      refine Ord.tf 9 17 rfl rfl ?_
      refine Ord.tf 10 18 rfl rfl ?_
      refine Ord.step (i := 11) rfl (by kernel_rfl) (by rfl) ?_
      intro K HK
      refine alloc_op 43 rfl (dArr Dc.d0) zero43 ?_
      intro wh bA hBA hbe hLA
      have hgeA : w.heap.size ≤ bA := by have := cur.k.size; omega
      replace cur := cur.push hLA hBA (Nat.le_of_eq hbe.symm) rfl
      clear hbe hLA hBA
      refine HK.out _ _ ?_
      clear HK
      refine Ord.kp ?_ ?_
      · exact cur.has (by simp)
      clear hS
      intro hS
      try simp only [List.setIfInBounds_toArray, List.set_cons_zero, List.set_cons_succ]
      refine Ord.step (i := 12) rfl (by kernel_rfl) (by rfl) ?_
      intro K HK
      refine store_blk_op 43 (.tmp 5) (.tmp 16) rfl bA (dArr (xDs z.val)) (dArr Dc.d0) 43 rfl rfl (cur.blk 0 rfl) Tryz.size43 rfl (dCells_one _) ?_
      intro wi hBi hOi
      replace cur := cur.set 0 rfl hOi hBi hgeA
      clear hBi hOi
      refine HK.out _ _ ?_
      clear HK
      refine ⟨Ord.np (by kernel_rfl), ?_⟩
      try simp only [List.setIfInBounds_toArray, List.set_cons_zero, List.set_cons_succ]
      refine Ord.tf 13 6 rfl rfl ?_
      refine Ord.tf 14 7 rfl rfl ?_
      refine Ord.done (by kernel_rfl) ?_ _
      clear hS
      go_wp2_with (first | ((with_reducible show wpList _ _ _ (⟨_, .load 43 (.tmp 5), _, _, _, _⟩ :: _) _ _); refine wpList_load_blk rfl 43 _ rfl _ rfl (show Blk _ _ (#[.int .i64 (xDs z.val).val.kind, .bool (xDs z.val).val.bool, .float .f64 (xDs z.val).val.num, .string (xDs z.val).val.str, .int .i64 (xDs z.val).val.id, .int .i64 (xDs z.val).get.kind, .bool (xDs z.val).get.bool, .float .f64 (xDs z.val).get.num, .string (xDs z.val).get.str, .int .i64 (xDs z.val).get.id, .int .i64 (xDs z.val).set.kind, .bool (xDs z.val).set.bool, .float .f64 (xDs z.val).set.num, .string (xDs z.val).set.str, .int .i64 (xDs z.val).set.id, .int .i64 (xDs z.val).w, .int .i64 (xDs z.val).e, .int .i64 (xDs z.val).c]) 43 from cur.blk 0 rfl) Tryz.row43 Tryz.size43 ?_) | ((with_reducible show wpList _ _ _ (⟨_, .store 192 (.tmp 3) _, _, _, _, _⟩ :: _) _ _); refine wpList_store_blk rfl 192 _ _ rfl _ (wArr ((xDs z.val), true)) _ 192 rfl rfl (cur.blk 1 rfl) Tryz.size192 rfl (wCells_one _) ?_; intro wq hB hO; replace cur := cur.set 1 rfl hO hB (Nat.le_refl _); clear hB hO))
      exact bodyPost_ret (results_cell_tmp Tryz.results118 rfl (cur.blk 1 rfl) Tryz.row192 Tryz.size192) rfl ⟨_, tp2, _, ext, L, rfl, cur.s, cur.k, rfl, rfl, rfl, rfl⟩
    · intro K HK
      refine alloc_op 43 rfl (dArr Dc.d0) zero43 ?_
      intro wh bA hBA hbe hLA
      have hgeA : w.heap.size ≤ bA := by have := cur.k.size; omega
      replace cur := cur.push hLA hBA (Nat.le_of_eq hbe.symm) rfl
      clear hbe hLA hBA
      refine HK.out _ _ ?_
      clear HK
      refine Ord.kp ?_ ?_
      · exact cur.has (by simp)
      clear hS
      intro hS
      try simp only [List.setIfInBounds_toArray, List.set_cons_zero, List.set_cons_succ]
      refine Ord.step (i := 6) rfl (by kernel_rfl) (by rfl) ?_
      intro K HK
      go_simp
      go_at_call 282
      refine (nown_some cur.s hf hd (hX.keeps cur.k) q hq hI hx h0).mono ?_
      rintro e wY ⟨tp2, rfl, s9, k9⟩
      replace cur := cur.go s9 k9
      clear s9 k9
      refine HK.out _ _ ?_
      clear HK
      refine Ord.kp ?_ ?_
      · exact cur.has (by simp)
      clear hS
      intro hS
      try simp only [List.setIfInBounds_toArray, List.set_cons_zero, List.set_cons_succ]
      refine Ord.tp 7 8 rfl rfl ?_
      refine Ord.tp 8 16 rfl rfl ?_
      refine Ord.tf 9 17 rfl rfl ?_
      refine Ord.tf 10 18 rfl rfl ?_
      refine Ord.step (i := 12) rfl (by kernel_rfl) (by rfl) ?_
      intro K HK
      refine store_blk_op 43 (.tmp 5) (.tmp 16) rfl bA (dArr (xDs z.val)) (dArr Dc.d0) 43 rfl rfl (cur.blk 0 rfl) Tryz.size43 rfl (dCells_one _) ?_
      intro wi hBi hOi
      replace cur := cur.set 0 rfl hOi hBi hgeA
      clear hBi hOi
      refine HK.out _ _ ?_
      clear HK
      refine ⟨Ord.np (by kernel_rfl), ?_⟩
      try simp only [List.setIfInBounds_toArray, List.set_cons_zero, List.set_cons_succ]
      refine Ord.tf 13 6 rfl rfl ?_
      refine Ord.tf 14 7 rfl rfl ?_
      refine Ord.done (by kernel_rfl) ?_ _
      clear hS
      go_wp2_with (first | ((with_reducible show wpList _ _ _ (⟨_, .load 43 (.tmp 5), _, _, _, _⟩ :: _) _ _); refine wpList_load_blk rfl 43 _ rfl _ rfl (show Blk _ _ (#[.int .i64 (xDs z.val).val.kind, .bool (xDs z.val).val.bool, .float .f64 (xDs z.val).val.num, .string (xDs z.val).val.str, .int .i64 (xDs z.val).val.id, .int .i64 (xDs z.val).get.kind, .bool (xDs z.val).get.bool, .float .f64 (xDs z.val).get.num, .string (xDs z.val).get.str, .int .i64 (xDs z.val).get.id, .int .i64 (xDs z.val).set.kind, .bool (xDs z.val).set.bool, .float .f64 (xDs z.val).set.num, .string (xDs z.val).set.str, .int .i64 (xDs z.val).set.id, .int .i64 (xDs z.val).w, .int .i64 (xDs z.val).e, .int .i64 (xDs z.val).c]) 43 from cur.blk 0 rfl) Tryz.row43 Tryz.size43 ?_) | ((with_reducible show wpList _ _ _ (⟨_, .store 192 (.tmp 3) _, _, _, _, _⟩ :: _) _ _); refine wpList_store_blk rfl 192 _ _ rfl _ (wArr ((xDs z.val), true)) _ 192 rfl rfl (cur.blk 1 rfl) Tryz.size192 rfl (wCells_one _) ?_; intro wq hB hO; replace cur := cur.set 1 rfl hO hB (Nat.le_refl _); clear hB hO))
      exact bodyPost_ret (results_cell_tmp Tryz.results118 rfl (cur.blk 1 rfl) Tryz.row192 Tryz.size192) rfl ⟨_, tp2, _, ext, L, rfl, cur.s, cur.k, rfl, rfl, rfl, rfl⟩
  · intro K HK
    refine alloc_op 43 rfl (dArr Dc.d0) zero43 ?_
    intro wh bA hBA hbe hLA
    have hgeA : w.heap.size ≤ bA := by have := cur.k.size; omega
    replace cur := cur.push hLA hBA (Nat.le_of_eq hbe.symm) rfl
    clear hbe hLA hBA
    refine HK.out _ _ ?_
    clear HK
    refine Ord.kp ?_ ?_
    · exact cur.has (by simp)
    clear hS
    intro hS
    try simp only [List.setIfInBounds_toArray, List.set_cons_zero, List.set_cons_succ]
    refine Ord.step (i := 2) rfl (by kernel_rfl) (by rfl) ?_
    intro K HK
    go_simp
    go_at_call 108
    refine (does_any cur.s).mono ?_
    rintro e wX ⟨rfl, rfl⟩
    refine HK.out _ _ ?_
    clear HK
    refine Ord.kp ?_ ?_
    · exact cur.has (by simp)
    clear hS
    intro hS
    try simp only [List.setIfInBounds_toArray, List.set_cons_zero, List.set_cons_succ]
    refine Ord.step (i := 6) rfl (by kernel_rfl) (by rfl) ?_
    intro K HK
    go_simp
    go_at_call 282
    refine (nown_some cur.s hf hd (hX.keeps cur.k) q hq hI hx h0).mono ?_
    rintro e wY ⟨tp2, rfl, s9, k9⟩
    replace cur := cur.go s9 k9
    clear s9 k9
    refine HK.out _ _ ?_
    clear HK
    refine Ord.kp ?_ ?_
    · exact cur.has (by simp)
    clear hS
    intro hS
    try simp only [List.setIfInBounds_toArray, List.set_cons_zero, List.set_cons_succ]
    refine Ord.tp 7 8 rfl rfl ?_
    refine Ord.tp 8 16 rfl rfl ?_
    refine Ord.tf 9 17 rfl rfl ?_
    refine Ord.tf 10 18 rfl rfl ?_
    refine Ord.step (i := 12) rfl (by kernel_rfl) (by rfl) ?_
    intro K HK
    refine store_blk_op 43 (.tmp 5) (.tmp 16) rfl bA (dArr (xDs z.val)) (dArr Dc.d0) 43 rfl rfl (cur.blk 0 rfl) Tryz.size43 rfl (dCells_one _) ?_
    intro wi hBi hOi
    replace cur := cur.set 0 rfl hOi hBi hgeA
    clear hBi hOi
    refine HK.out _ _ ?_
    clear HK
    refine ⟨Ord.np (by kernel_rfl), ?_⟩
    try simp only [List.setIfInBounds_toArray, List.set_cons_zero, List.set_cons_succ]
    refine Ord.tf 13 6 rfl rfl ?_
    refine Ord.tf 14 7 rfl rfl ?_
    refine Ord.done (by kernel_rfl) ?_ _
    clear hS
    go_wp2_with (first | ((with_reducible show wpList _ _ _ (⟨_, .load 43 (.tmp 5), _, _, _, _⟩ :: _) _ _); refine wpList_load_blk rfl 43 _ rfl _ rfl (show Blk _ _ (#[.int .i64 (xDs z.val).val.kind, .bool (xDs z.val).val.bool, .float .f64 (xDs z.val).val.num, .string (xDs z.val).val.str, .int .i64 (xDs z.val).val.id, .int .i64 (xDs z.val).get.kind, .bool (xDs z.val).get.bool, .float .f64 (xDs z.val).get.num, .string (xDs z.val).get.str, .int .i64 (xDs z.val).get.id, .int .i64 (xDs z.val).set.kind, .bool (xDs z.val).set.bool, .float .f64 (xDs z.val).set.num, .string (xDs z.val).set.str, .int .i64 (xDs z.val).set.id, .int .i64 (xDs z.val).w, .int .i64 (xDs z.val).e, .int .i64 (xDs z.val).c]) 43 from cur.blk 0 rfl) Tryz.row43 Tryz.size43 ?_) | ((with_reducible show wpList _ _ _ (⟨_, .store 192 (.tmp 3) _, _, _, _, _⟩ :: _) _ _); refine wpList_store_blk rfl 192 _ _ rfl _ (wArr ((xDs z.val), true)) _ 192 rfl rfl (cur.blk 1 rfl) Tryz.size192 rfl (wCells_one _) ?_; intro wq hB hO; replace cur := cur.set 1 rfl hO hB (Nat.le_refl _); clear hB hO))
    exact bodyPost_ret (results_cell_tmp Tryz.results118 rfl (cur.blk 1 rfl) Tryz.row192 Tryz.size192) rfl ⟨_, tp2, _, ext, L, rfl, cur.s, cur.k, rfl, rfl, rfl, rfl⟩


theorem xcown_thr {n0 : Nat} {w : World} {hb : Nat} {ov : Value} {ob : Nat} {tp : Option Addr} {cap fuel deep : Int} {xb : Nat} {ext : Bool} {L : List (Ky × Ds)} {bh bi bk : Nat} {g xc : Nat} {a : Option Addr} {l : List Ex} (hX : XAt w xb g xc a l) (q : ByteArray) (hq : q.size + 2 ≤ 1099511627776) (hf : 0 < fuel ∧ fuel ≤ 9223372036854775807) (hd : 0 ≤ deep ∧ deep < 10) {i : Nat} {z : Ex} (hI : xIdx l q = some i) (hx : l[i]? = some z) (h0 : z.val.kind = 0) (cur : Bag n0 w w hb ov ob tp cap fuel deep (kN xb) ext L [(bk, #[.string q, .int .i64 0], 40), (bi, #[.int .i64 1], 3), (bh, #[.pointer (some ⟨hb, 0, none⟩)], 25)]) : Calls Tryz.prog 118 #[.pointer (some ⟨bh, 0, none⟩), .pointer (some ⟨bi, 0, none⟩), .pointer (some ⟨bk, 0, none⟩)] w (GivesT (α := Ds × Bool) (fun x => .agg (wArr x)) (fun _ => True) thrArr (fun f e l => f = fuel - 1 ∧ e = ext ∧ l = L) n0 w hb ov ob cap deep (kN xb)) := by
  have hm := xmGetOwnProperty xb
  have hmv : (kN xb).mv = .iface 157 (.pointer (some ⟨xb, 0, none⟩)) := rfl
  go_enter Tryz.func118, Tryz.ntmps118
  go_wp2_with ((with_reducible show wpList _ _ _ (⟨_, .alloc 192, _, _, _, _⟩ :: _) _ _); refine wpList_alloc_blk rfl 192 rfl (wArr (Dc.d0, false)) zero192 ?_; intro wa hB hL hs; replace cur := cur.push hL hB (Nat.le_refl _) rfl; clear hB hL hs)
  refine Ord.region (fun W => Has W ([(bk, #[.string q, .int .i64 0], 40), (bi, #[.int .i64 1], 3), (bh, #[.pointer (some ⟨hb, 0, none⟩)], 25)])) [9, 10, 13, 14] (by kernel_rfl) (cur.drew.has (by simp)) ?_
  intro hS
  replace cur := cur.drew
  refine Ord.tk 0 9 rfl rfl (yields_load1 (by rfl) 25 _ rfl bh 0 rfl (.pointer (some ⟨hb, 0, none⟩)) Tryz.isAgg25 (fun W hSW => (hSW.blk 2 rfl).cell 0)) ?_
  refine Ord.tk 1 10 rfl rfl (yields_load1 (by rfl) 3 _ rfl bi 0 rfl (.int .i64 1) Tryz.isAgg3 (fun W hSW => (hSW.blk 1 rfl).cell 0)) ?_
  refine Ord.tk 3 12 rfl rfl (yields_load1 (by rfl) 25 _ rfl bh 0 rfl (.pointer (some ⟨hb, 0, none⟩)) Tryz.isAgg25 (fun W hSW => (hSW.blk 2 rfl).cell 0)) ?_
  refine Ord.tk 4 13 rfl rfl (yields_load1 (by rfl) 3 _ rfl bi 0 rfl (.int .i64 1) Tryz.isAgg3 (fun W hSW => (hSW.blk 1 rfl).cell 0)) ?_
  refine Ord.tk 5 14 rfl rfl (yieldsIf_load_mid (by rfl) 40 _ rfl bk 0 rfl ([.string q, .int .i64 0]) _ (fun W hSW => range_all (hSW.blk 0 rfl)) Tryz.underlying40 rfl Tryz.size40) ?_
  refine Ord.two (i := 2) (j := 11) rfl rfl (by kernel_rfl) (by rfl) (by rfl) ?_ ?_
  · intro K HK
    go_simp
    go_at_call 108
    refine (does_any cur.s).mono ?_
    rintro e wX ⟨rfl, rfl⟩
    refine HK.out _ _ ?_
    clear HK
    refine Ord.kp ?_ ?_
    · exact cur.has (by simp)
    clear hS
    intro hS
    try simp only [List.setIfInBounds_toArray, List.set_cons_zero, List.set_cons_succ]
    refine Ord.two (i := 6) (j := 11) rfl rfl (by kernel_rfl) (by rfl) (by rfl) ?_ ?_
    · intro K HK
      go_simp
      go_at_call 282
      refine (nown_thr cur.s hf hd (hX.keeps cur.k) q hq hI hx h0).mono ?_
      rintro e wY ⟨bt, tp2, rfl, hnb, hbb, s9, k9⟩
      replace cur := cur.go s9 k9
      clear s9 k9
      refine HK.out _ _ ?_
      clear HK
      refine Ord.kp ?_ ?_
      · exact cur.has (by simp)
      clear hS
      intro hS
      try simp only [List.setIfInBounds_toArray, List.set_cons_zero, List.set_cons_succ]
      refine Ord.tp 7 8 rfl rfl ?_
      refine Ord.tp 8 16 rfl rfl ?_
      refine Ord.tf 9 17 rfl rfl ?_
      refine Ord.tf 10 18 rfl rfl ?_
      refine Ord.step (i := 11) rfl (by kernel_rfl) (by rfl) ?_
      intro K HK
      refine alloc_op 43 rfl (dArr Dc.d0) zero43 ?_
      intro wh bA hBA hbe hLA
      try replace hbb := hbb.next hLA
      have hgeA : w.heap.size ≤ bA := by have := cur.k.size; omega
      replace cur := cur.push hLA hBA (Nat.le_of_eq hbe.symm) rfl
      clear hbe hLA hBA
      refine HK.out _ _ ?_
      clear HK
      refine Ord.kp ?_ ?_
      · exact cur.has (by simp)
      clear hS
      intro hS
      try simp only [List.setIfInBounds_toArray, List.set_cons_zero, List.set_cons_succ]
      refine Ord.step (i := 12) rfl (by kernel_rfl) (by rfl) ?_
      intro K HK
      refine store_blk_op 43 (.tmp 5) (.tmp 16) rfl bA (dArr Dc.d0) (dArr Dc.d0) 43 rfl rfl (cur.blk 0 rfl) Tryz.size43 rfl (dCells_one _) ?_
      intro wi hBi hOi
      replace hbb := hbb.only hOi (by simpa using hbb.ne (cur.blk 0 rfl) (by decide))
      replace cur := cur.set 0 rfl hOi hBi hgeA
      clear hBi hOi
      refine HK.out _ _ ?_
      clear HK
      refine ⟨Ord.np (by kernel_rfl), ?_⟩
      try simp only [List.setIfInBounds_toArray, List.set_cons_zero, List.set_cons_succ]
      refine Ord.tf 13 6 rfl rfl ?_
      refine Ord.tf 14 7 rfl rfl ?_
      refine Ord.done (by kernel_rfl) ?_ _
      clear hS
      unfold errT
      go_wp2_with (first | ((with_reducible show wpList _ _ _ (⟨_, .load 43 (.tmp 5), _, _, _, _⟩ :: _) _ _); refine wpList_load_blk rfl 43 _ rfl _ rfl (show Blk _ _ (#[.int .i64 Dc.d0.val.kind, .bool Dc.d0.val.bool, .float .f64 Dc.d0.val.num, .string Dc.d0.val.str, .int .i64 Dc.d0.val.id, .int .i64 Dc.d0.get.kind, .bool Dc.d0.get.bool, .float .f64 Dc.d0.get.num, .string Dc.d0.get.str, .int .i64 Dc.d0.get.id, .int .i64 Dc.d0.set.kind, .bool Dc.d0.set.bool, .float .f64 Dc.d0.set.num, .string Dc.d0.set.str, .int .i64 Dc.d0.set.id, .int .i64 Dc.d0.w, .int .i64 Dc.d0.e, .int .i64 Dc.d0.c]) 43 from cur.blk 0 rfl) Tryz.row43 Tryz.size43 ?_) | ((with_reducible show wpList _ _ _ (⟨_, .store 192 (.tmp 3) _, _, _, _, _⟩ :: _) _ _); refine wpList_store_blk rfl 192 _ _ rfl _ (wArr (Dc.d0, false)) _ 192 rfl rfl (cur.blk 1 rfl) Tryz.size192 rfl (wCells_one _) ?_; intro wq hB hO; replace hbb := hbb.only hO (by simpa using hbb.ne (cur.blk 1 rfl) (by decide)); replace cur := cur.set 1 rfl hO hB (Nat.le_refl _); clear hB hO))
      exact bodyPost_ret (results_cell_tmp Tryz.results118 rfl (cur.blk 1 rfl) Tryz.row192 Tryz.size192) rfl ⟨_, bt, tp2, _, ext, L, rfl, trivial, cur.s, cur.k, hnb, hbb, rfl, rfl, rfl⟩
    · intro K HK
      refine alloc_op 43 rfl (dArr Dc.d0) zero43 ?_
      intro wh bA hBA hbe hLA
      try replace hbb := hbb.next hLA
      have hgeA : w.heap.size ≤ bA := by have := cur.k.size; omega
      replace cur := cur.push hLA hBA (Nat.le_of_eq hbe.symm) rfl
      clear hbe hLA hBA
      refine HK.out _ _ ?_
      clear HK
      refine Ord.kp ?_ ?_
      · exact cur.has (by simp)
      clear hS
      intro hS
      try simp only [List.setIfInBounds_toArray, List.set_cons_zero, List.set_cons_succ]
      refine Ord.step (i := 6) rfl (by kernel_rfl) (by rfl) ?_
      intro K HK
      go_simp
      go_at_call 282
      refine (nown_thr cur.s hf hd (hX.keeps cur.k) q hq hI hx h0).mono ?_
      rintro e wY ⟨bt, tp2, rfl, hnb, hbb, s9, k9⟩
      replace cur := cur.go s9 k9
      clear s9 k9
      refine HK.out _ _ ?_
      clear HK
      refine Ord.kp ?_ ?_
      · exact cur.has (by simp)
      clear hS
      intro hS
      try simp only [List.setIfInBounds_toArray, List.set_cons_zero, List.set_cons_succ]
      refine Ord.tp 7 8 rfl rfl ?_
      refine Ord.tp 8 16 rfl rfl ?_
      refine Ord.tf 9 17 rfl rfl ?_
      refine Ord.tf 10 18 rfl rfl ?_
      refine Ord.step (i := 12) rfl (by kernel_rfl) (by rfl) ?_
      intro K HK
      refine store_blk_op 43 (.tmp 5) (.tmp 16) rfl bA (dArr Dc.d0) (dArr Dc.d0) 43 rfl rfl (cur.blk 0 rfl) Tryz.size43 rfl (dCells_one _) ?_
      intro wi hBi hOi
      replace hbb := hbb.only hOi (by simpa using hbb.ne (cur.blk 0 rfl) (by decide))
      replace cur := cur.set 0 rfl hOi hBi hgeA
      clear hBi hOi
      refine HK.out _ _ ?_
      clear HK
      refine ⟨Ord.np (by kernel_rfl), ?_⟩
      try simp only [List.setIfInBounds_toArray, List.set_cons_zero, List.set_cons_succ]
      refine Ord.tf 13 6 rfl rfl ?_
      refine Ord.tf 14 7 rfl rfl ?_
      refine Ord.done (by kernel_rfl) ?_ _
      clear hS
      unfold errT
      go_wp2_with (first | ((with_reducible show wpList _ _ _ (⟨_, .load 43 (.tmp 5), _, _, _, _⟩ :: _) _ _); refine wpList_load_blk rfl 43 _ rfl _ rfl (show Blk _ _ (#[.int .i64 Dc.d0.val.kind, .bool Dc.d0.val.bool, .float .f64 Dc.d0.val.num, .string Dc.d0.val.str, .int .i64 Dc.d0.val.id, .int .i64 Dc.d0.get.kind, .bool Dc.d0.get.bool, .float .f64 Dc.d0.get.num, .string Dc.d0.get.str, .int .i64 Dc.d0.get.id, .int .i64 Dc.d0.set.kind, .bool Dc.d0.set.bool, .float .f64 Dc.d0.set.num, .string Dc.d0.set.str, .int .i64 Dc.d0.set.id, .int .i64 Dc.d0.w, .int .i64 Dc.d0.e, .int .i64 Dc.d0.c]) 43 from cur.blk 0 rfl) Tryz.row43 Tryz.size43 ?_) | ((with_reducible show wpList _ _ _ (⟨_, .store 192 (.tmp 3) _, _, _, _, _⟩ :: _) _ _); refine wpList_store_blk rfl 192 _ _ rfl _ (wArr (Dc.d0, false)) _ 192 rfl rfl (cur.blk 1 rfl) Tryz.size192 rfl (wCells_one _) ?_; intro wq hB hO; replace hbb := hbb.only hO (by simpa using hbb.ne (cur.blk 1 rfl) (by decide)); replace cur := cur.set 1 rfl hO hB (Nat.le_refl _); clear hB hO))
      exact bodyPost_ret (results_cell_tmp Tryz.results118 rfl (cur.blk 1 rfl) Tryz.row192 Tryz.size192) rfl ⟨_, bt, tp2, _, ext, L, rfl, trivial, cur.s, cur.k, hnb, hbb, rfl, rfl, rfl⟩
  · intro K HK
    refine alloc_op 43 rfl (dArr Dc.d0) zero43 ?_
    intro wh bA hBA hbe hLA
    try replace hbb := hbb.next hLA
    have hgeA : w.heap.size ≤ bA := by have := cur.k.size; omega
    replace cur := cur.push hLA hBA (Nat.le_of_eq hbe.symm) rfl
    clear hbe hLA hBA
    refine HK.out _ _ ?_
    clear HK
    refine Ord.kp ?_ ?_
    · exact cur.has (by simp)
    clear hS
    intro hS
    try simp only [List.setIfInBounds_toArray, List.set_cons_zero, List.set_cons_succ]
    refine Ord.step (i := 2) rfl (by kernel_rfl) (by rfl) ?_
    intro K HK
    go_simp
    go_at_call 108
    refine (does_any cur.s).mono ?_
    rintro e wX ⟨rfl, rfl⟩
    refine HK.out _ _ ?_
    clear HK
    refine Ord.kp ?_ ?_
    · exact cur.has (by simp)
    clear hS
    intro hS
    try simp only [List.setIfInBounds_toArray, List.set_cons_zero, List.set_cons_succ]
    refine Ord.step (i := 6) rfl (by kernel_rfl) (by rfl) ?_
    intro K HK
    go_simp
    go_at_call 282
    refine (nown_thr cur.s hf hd (hX.keeps cur.k) q hq hI hx h0).mono ?_
    rintro e wY ⟨bt, tp2, rfl, hnb, hbb, s9, k9⟩
    replace cur := cur.go s9 k9
    clear s9 k9
    refine HK.out _ _ ?_
    clear HK
    refine Ord.kp ?_ ?_
    · exact cur.has (by simp)
    clear hS
    intro hS
    try simp only [List.setIfInBounds_toArray, List.set_cons_zero, List.set_cons_succ]
    refine Ord.tp 7 8 rfl rfl ?_
    refine Ord.tp 8 16 rfl rfl ?_
    refine Ord.tf 9 17 rfl rfl ?_
    refine Ord.tf 10 18 rfl rfl ?_
    refine Ord.step (i := 12) rfl (by kernel_rfl) (by rfl) ?_
    intro K HK
    refine store_blk_op 43 (.tmp 5) (.tmp 16) rfl bA (dArr Dc.d0) (dArr Dc.d0) 43 rfl rfl (cur.blk 0 rfl) Tryz.size43 rfl (dCells_one _) ?_
    intro wi hBi hOi
    replace hbb := hbb.only hOi (by simpa using hbb.ne (cur.blk 0 rfl) (by decide))
    replace cur := cur.set 0 rfl hOi hBi hgeA
    clear hBi hOi
    refine HK.out _ _ ?_
    clear HK
    refine ⟨Ord.np (by kernel_rfl), ?_⟩
    try simp only [List.setIfInBounds_toArray, List.set_cons_zero, List.set_cons_succ]
    refine Ord.tf 13 6 rfl rfl ?_
    refine Ord.tf 14 7 rfl rfl ?_
    refine Ord.done (by kernel_rfl) ?_ _
    clear hS
    unfold errT
    go_wp2_with (first | ((with_reducible show wpList _ _ _ (⟨_, .load 43 (.tmp 5), _, _, _, _⟩ :: _) _ _); refine wpList_load_blk rfl 43 _ rfl _ rfl (show Blk _ _ (#[.int .i64 Dc.d0.val.kind, .bool Dc.d0.val.bool, .float .f64 Dc.d0.val.num, .string Dc.d0.val.str, .int .i64 Dc.d0.val.id, .int .i64 Dc.d0.get.kind, .bool Dc.d0.get.bool, .float .f64 Dc.d0.get.num, .string Dc.d0.get.str, .int .i64 Dc.d0.get.id, .int .i64 Dc.d0.set.kind, .bool Dc.d0.set.bool, .float .f64 Dc.d0.set.num, .string Dc.d0.set.str, .int .i64 Dc.d0.set.id, .int .i64 Dc.d0.w, .int .i64 Dc.d0.e, .int .i64 Dc.d0.c]) 43 from cur.blk 0 rfl) Tryz.row43 Tryz.size43 ?_) | ((with_reducible show wpList _ _ _ (⟨_, .store 192 (.tmp 3) _, _, _, _, _⟩ :: _) _ _); refine wpList_store_blk rfl 192 _ _ rfl _ (wArr (Dc.d0, false)) _ 192 rfl rfl (cur.blk 1 rfl) Tryz.size192 rfl (wCells_one _) ?_; intro wq hB hO; replace hbb := hbb.only hO (by simpa using hbb.ne (cur.blk 1 rfl) (by decide)); replace cur := cur.set 1 rfl hO hB (Nat.le_refl _); clear hB hO))
    exact bodyPost_ret (results_cell_tmp Tryz.results118 rfl (cur.blk 1 rfl) Tryz.row192 Tryz.size192) rfl ⟨_, bt, tp2, _, ext, L, rfl, trivial, cur.s, cur.k, hnb, hbb, rfl, rfl, rfl⟩


theorem xeown_none {n0 : Nat} {w : World} {hb : Nat} {ov : Value} {ob : Nat} {tp : Option Addr} {cap fuel deep : Int} {xb : Nat} {ext : Bool} {L : List (Ky × Ds)} (s : StX n0 w hb ov ob tp cap fuel deep (kN xb) ext L) (hf2 : 1 < fuel ∧ fuel ≤ 9223372036854775807) (hd2 : 0 ≤ deep ∧ deep < 9) {g xc : Nat} {a : Option Addr} {l : List Ex} (hX : XAt w xb g xc a l) (q : ByteArray) (hq : q.size + 2 ≤ 1099511627776) (hI : xIdx l q = none) : Calls Tryz.prog 66 #[.pointer (some ⟨hb, 0, none⟩), .int .i64 1, .agg #[.string q, .int .i64 0]] w fun e w' => DidE (.tuple #[.agg (dArr Dc.d0), .bool false, .nilIface]) n0 w hb ov ob cap (fuel - 1) deep (kN xb) ext L e w' := by
  have hf : 0 < fuel ∧ fuel ≤ 9223372036854775807 := by omega
  have hd : 0 ≤ deep ∧ deep < 10 := by omega
  have cur := Bag.start s
  clear s
  go_enter Tryz.func66, Tryz.ntmps66
  go_wp2_with (first | ((with_reducible show wpList _ _ _ (⟨_, .box 25 _, _, _, _, _⟩ :: _) _ _); refine wpList_box1 rfl 25 _ rfl (.pointer (some ⟨hb, 0, none⟩)) rfl rfl ?_; intro wa hB hL hs; replace cur := cur.push hL hB (Nat.le_refl _) rfl; clear hB hL hs) | ((with_reducible show wpList _ _ _ (⟨_, .box 3 _, _, _, _, _⟩ :: _) _ _); refine wpList_box1 rfl 3 _ rfl (.int .i64 1) rfl rfl ?_; intro wb hB hL hs; replace cur := cur.push hL hB (Nat.le_refl _) rfl; clear hB hL hs) | ((with_reducible show wpList _ _ _ (⟨_, .box 40 (.tmp 2), _, _, _, _⟩ :: _) _ _); refine wpList_box_blk rfl 40 _ rfl (#[.string q, .int .i64 0]) rfl ?_; intro wc hB hL hs; replace cur := cur.push hL hB (Nat.le_refl _) rfl; clear hB hL hs) | ((with_reducible show wpList _ _ _ (⟨some 6, .alloc 43, _, _, _, _⟩ :: _) _ _); refine wpList_alloc_blk rfl 43 rfl (dArr Dc.d0) zero43 ?_; intro wr hB hL hs; have hler := cur.k.size; replace cur := cur.push hL hB (Nat.le_refl _) rfl; clear hB hL hs) | ((with_reducible show wpList _ _ _ (⟨_, .load 25 (.tmp 3), _, _, _, _⟩ :: _) _ _); refine wpList_load1 (by rfl) 25 _ rfl _ 0 rfl (.pointer (some ⟨hb, 0, none⟩)) (Tryz.isAgg25 _) ((cur.blk 3 rfl).cell 0) ?_) | (go_at_call 117; refine (wown_g cur.s hf hd 118 _ (enters_of Tryz.func118 (by kernel_rfl) rfl) (fun x f e l => x = (Dc.d0, false) ∧ f = fuel - 1 ∧ e = ext ∧ l = L) (fun W1 s1 k1 => xcown_none (hX.keeps (cur.k.trans k1)) q hq (by omega) (by omega) hI (cur.go s1 k1).again.tail)).mono ?_; rintro e wX ⟨x, tp', fl, ex, L2, rfl, s9, k9, rfl, rfl, rfl, rfl⟩; replace cur := cur.go s9 k9; have hw9 := cur.k.size) | ((with_reducible show wpList _ _ _ (⟨some 9, .alloc 192, _, _, _, _⟩ :: _) _ _); refine wpList_alloc_blk rfl 192 rfl (wArr (Dc.d0, false)) zero192 ?_; intro wq hB hL hs; have hleq := cur.k.size; replace cur := cur.push hL hB (Nat.le_refl _) rfl; clear hB hL hs) | ((with_reducible show wpList _ _ _ (⟨_, .store 192 (.tmp 9) _, _, _, _, _⟩ :: _) _ _); refine wpList_store_blk rfl 192 _ _ rfl _ (wArr (Dc.d0, false)) _ 192 rfl rfl (cur.blk 0 rfl) Tryz.size192 rfl (wCells_one _) ?_; intro wg hB hO; replace cur := cur.set 0 rfl hO hB hleq; clear hB hO))
  refine Ord.region (fun W => Has W ([(wX.heap.size, wArr (Dc.d0, false), 192)])) [4, 7] (by kernel_rfl) (cur.drew.has (by simp)) ?_
  intro hS
  replace cur := cur.drew
  refine Ord.tp 0 17 rfl rfl ?_
  refine Ord.tk 1 18 rfl rfl (yieldsIf_load_mid (by rfl) 43 _ rfl wX.heap.size 0 rfl ([.int .i64 Dc.d0.val.kind, .bool Dc.d0.val.bool, .float .f64 Dc.d0.val.num, .string Dc.d0.val.str, .int .i64 Dc.d0.val.id, .int .i64 Dc.d0.get.kind, .bool Dc.d0.get.bool, .float .f64 Dc.d0.get.num, .string Dc.d0.get.str, .int .i64 Dc.d0.get.id, .int .i64 Dc.d0.set.kind, .bool Dc.d0.set.bool, .float .f64 Dc.d0.set.num, .string Dc.d0.set.str, .int .i64 Dc.d0.set.id, .int .i64 Dc.d0.w, .int .i64 Dc.d0.e, .int .i64 Dc.d0.c]) _ (fun W hSW => range_own (hSW.blk 0 rfl)) Tryz.underlying43 rfl Tryz.size43) ?_
  refine Ord.tp 2 19 rfl rfl ?_
  refine Ord.tk 3 20 rfl rfl (yields_load1 (by rfl) 4 _ rfl wX.heap.size 18 rfl (.bool false) Tryz.isAgg4 (fun W hSW => (hSW.blk 0 rfl).cell 18)) ?_
  refine Ord.tf 4 21 rfl rfl ?_
  refine Ord.step (i := 5) rfl (by kernel_rfl) (by rfl) ?_
  intro K HK
  refine store_blk_op 43 (.tmp 6) (.tmp 18) rfl _ (dArr Dc.d0) (dArr Dc.d0) 43 rfl rfl (cur.blk 1 rfl) Tryz.size43 rfl (dCells_one _) ?_
  intro wi hBi hOi
  replace cur := cur.set 1 rfl hOi hBi hler
  clear hBi hOi
  refine HK.out _ _ ?_
  clear HK
  refine Ord.kp ?_ ?_
  · exact cur.has (by simp)
  clear hS
  intro hS
  try simp only [List.setIfInBounds_toArray, List.set_cons_zero, List.set_cons_succ]
  refine Ord.step (i := 6) rfl (by kernel_rfl) (by rfl) ?_
  intro K HK
  go_simp
  refine HK.out _ _ ?_
  clear HK
  refine ⟨Ord.np (by kernel_rfl), ?_⟩
  try simp only [List.setIfInBounds_toArray, List.set_cons_zero, List.set_cons_succ]
  refine Ord.tf 7 8 rfl rfl ?_
  refine Ord.done (by kernel_rfl) ?_ _
  clear hS
  go_wp2
  exact bodyPost_ret (results_cell_tmp2 Tryz.results66 rfl (cur.blk 1 rfl) Tryz.row43 Tryz.size43) rfl ⟨tp', rfl, cur.s, cur.k⟩


theorem xeown_some {n0 : Nat} {w : World} {hb : Nat} {ov : Value} {ob : Nat} {tp : Option Addr} {cap fuel deep : Int} {xb : Nat} {ext : Bool} {L : List (Ky × Ds)} (s : StX n0 w hb ov ob tp cap fuel deep (kN xb) ext L) (hf2 : 1 < fuel ∧ fuel ≤ 9223372036854775807) (hd2 : 0 ≤ deep ∧ deep < 9) {g xc : Nat} {a : Option Addr} {l : List Ex} (hX : XAt w xb g xc a l) (q : ByteArray) (hq : q.size + 2 ≤ 1099511627776) {i : Nat} {z : Ex} (hI : xIdx l q = some i) (hx : l[i]? = some z) (h0 : ¬ z.val.kind = 0) : Calls Tryz.prog 66 #[.pointer (some ⟨hb, 0, none⟩), .int .i64 1, .agg #[.string q, .int .i64 0]] w fun e w' => DidE (.tuple #[.agg (dArr (xDs z.val)), .bool true, .nilIface]) n0 w hb ov ob cap (fuel - 1 - 1) deep (kN xb) ext L e w' := by
  have hf : 0 < fuel ∧ fuel ≤ 9223372036854775807 := by omega
  have hd : 0 ≤ deep ∧ deep < 10 := by omega
  have cur := Bag.start s
  clear s
  go_enter Tryz.func66, Tryz.ntmps66
  go_wp2_with (first | ((with_reducible show wpList _ _ _ (⟨_, .box 25 _, _, _, _, _⟩ :: _) _ _); refine wpList_box1 rfl 25 _ rfl (.pointer (some ⟨hb, 0, none⟩)) rfl rfl ?_; intro wa hB hL hs; replace cur := cur.push hL hB (Nat.le_refl _) rfl; clear hB hL hs) | ((with_reducible show wpList _ _ _ (⟨_, .box 3 _, _, _, _, _⟩ :: _) _ _); refine wpList_box1 rfl 3 _ rfl (.int .i64 1) rfl rfl ?_; intro wb hB hL hs; replace cur := cur.push hL hB (Nat.le_refl _) rfl; clear hB hL hs) | ((with_reducible show wpList _ _ _ (⟨_, .box 40 (.tmp 2), _, _, _, _⟩ :: _) _ _); refine wpList_box_blk rfl 40 _ rfl (#[.string q, .int .i64 0]) rfl ?_; intro wc hB hL hs; replace cur := cur.push hL hB (Nat.le_refl _) rfl; clear hB hL hs) | ((with_reducible show wpList _ _ _ (⟨some 6, .alloc 43, _, _, _, _⟩ :: _) _ _); refine wpList_alloc_blk rfl 43 rfl (dArr Dc.d0) zero43 ?_; intro wr hB hL hs; have hler := cur.k.size; replace cur := cur.push hL hB (Nat.le_refl _) rfl; clear hB hL hs) | ((with_reducible show wpList _ _ _ (⟨_, .load 25 (.tmp 3), _, _, _, _⟩ :: _) _ _); refine wpList_load1 (by rfl) 25 _ rfl _ 0 rfl (.pointer (some ⟨hb, 0, none⟩)) (Tryz.isAgg25 _) ((cur.blk 3 rfl).cell 0) ?_) | (go_at_call 117; refine (wown_g cur.s hf hd 118 _ (enters_of Tryz.func118 (by kernel_rfl) rfl) (fun x f e l => x = ((xDs z.val), true) ∧ f = fuel - 1 - 1 ∧ e = ext ∧ l = L) (fun W1 s1 k1 => xcown_some (hX.keeps (cur.k.trans k1)) q hq (by omega) (by omega) hI hx h0 (cur.go s1 k1).again.tail)).mono ?_; rintro e wX ⟨x, tp', fl, ex, L2, rfl, s9, k9, rfl, rfl, rfl, rfl⟩; replace cur := cur.go s9 k9; have hw9 := cur.k.size) | ((with_reducible show wpList _ _ _ (⟨some 9, .alloc 192, _, _, _, _⟩ :: _) _ _); refine wpList_alloc_blk rfl 192 rfl (wArr (Dc.d0, false)) zero192 ?_; intro wq hB hL hs; have hleq := cur.k.size; replace cur := cur.push hL hB (Nat.le_refl _) rfl; clear hB hL hs) | ((with_reducible show wpList _ _ _ (⟨_, .store 192 (.tmp 9) _, _, _, _, _⟩ :: _) _ _); refine wpList_store_blk rfl 192 _ _ rfl _ (wArr ((xDs z.val), true)) _ 192 rfl rfl (cur.blk 0 rfl) Tryz.size192 rfl (wCells_one _) ?_; intro wg hB hO; replace cur := cur.set 0 rfl hO hB hleq; clear hB hO))
  refine Ord.region (fun W => Has W ([(wX.heap.size, wArr ((xDs z.val), true), 192)])) [4, 7] (by kernel_rfl) (cur.drew.has (by simp)) ?_
  intro hS
  replace cur := cur.drew
  refine Ord.tp 0 17 rfl rfl ?_
  refine Ord.tk 1 18 rfl rfl (yieldsIf_load_mid (by rfl) 43 _ rfl wX.heap.size 0 rfl ([.int .i64 (xDs z.val).val.kind, .bool (xDs z.val).val.bool, .float .f64 (xDs z.val).val.num, .string (xDs z.val).val.str, .int .i64 (xDs z.val).val.id, .int .i64 (xDs z.val).get.kind, .bool (xDs z.val).get.bool, .float .f64 (xDs z.val).get.num, .string (xDs z.val).get.str, .int .i64 (xDs z.val).get.id, .int .i64 (xDs z.val).set.kind, .bool (xDs z.val).set.bool, .float .f64 (xDs z.val).set.num, .string (xDs z.val).set.str, .int .i64 (xDs z.val).set.id, .int .i64 (xDs z.val).w, .int .i64 (xDs z.val).e, .int .i64 (xDs z.val).c]) _ (fun W hSW => range_own (hSW.blk 0 rfl)) Tryz.underlying43 rfl Tryz.size43) ?_
  refine Ord.tp 2 19 rfl rfl ?_
  refine Ord.tk 3 20 rfl rfl (yields_load1 (by rfl) 4 _ rfl wX.heap.size 18 rfl (.bool true) Tryz.isAgg4 (fun W hSW => (hSW.blk 0 rfl).cell 18)) ?_
  refine Ord.tf 4 21 rfl rfl ?_
  refine Ord.step (i := 5) rfl (by kernel_rfl) (by rfl) ?_
  intro K HK
  refine store_blk_op 43 (.tmp 6) (.tmp 18) rfl _ (dArr (xDs z.val)) (dArr Dc.d0) 43 rfl rfl (cur.blk 1 rfl) Tryz.size43 rfl (dCells_one _) ?_
  intro wi hBi hOi
  replace cur := cur.set 1 rfl hOi hBi hler
  clear hBi hOi
  refine HK.out _ _ ?_
  clear HK
  refine Ord.kp ?_ ?_
  · exact cur.has (by simp)
  clear hS
  intro hS
  try simp only [List.setIfInBounds_toArray, List.set_cons_zero, List.set_cons_succ]
  refine Ord.step (i := 6) rfl (by kernel_rfl) (by rfl) ?_
  intro K HK
  go_simp
  refine HK.out _ _ ?_
  clear HK
  refine ⟨Ord.np (by kernel_rfl), ?_⟩
  try simp only [List.setIfInBounds_toArray, List.set_cons_zero, List.set_cons_succ]
  refine Ord.tf 7 8 rfl rfl ?_
  refine Ord.done (by kernel_rfl) ?_ _
  clear hS
  go_wp2
  exact bodyPost_ret (results_cell_tmp2 Tryz.results66 rfl (cur.blk 1 rfl) Tryz.row43 Tryz.size43) rfl ⟨tp', rfl, cur.s, cur.k⟩


theorem xeown_thr {n0 : Nat} {w : World} {hb : Nat} {ov : Value} {ob : Nat} {tp : Option Addr} {cap fuel deep : Int} {xb : Nat} {ext : Bool} {L : List (Ky × Ds)} (s : StX n0 w hb ov ob tp cap fuel deep (kN xb) ext L) (hf2 : 1 < fuel ∧ fuel ≤ 9223372036854775807) (hd2 : 0 ≤ deep ∧ deep < 9) {g xc : Nat} {a : Option Addr} {l : List Ex} (hX : XAt w xb g xc a l) (q : ByteArray) (hq : q.size + 2 ≤ 1099511627776) {i : Nat} {z : Ex} (hI : xIdx l q = some i) (hx : l[i]? = some z) (h0 : z.val.kind = 0) : Calls Tryz.prog 66 #[.pointer (some ⟨hb, 0, none⟩), .int .i64 1, .agg #[.string q, .int .i64 0]] w fun e w' => DidT3 n0 w hb ov ob cap (fuel - 1 - 1) deep (kN xb) ext L e w' := by
  have hf : 0 < fuel ∧ fuel ≤ 9223372036854775807 := by omega
  have hd : 0 ≤ deep ∧ deep < 10 := by omega
  have cur := Bag.start s
  clear s
  go_enter Tryz.func66, Tryz.ntmps66
  go_wp2_with (first | ((with_reducible show wpList _ _ _ (⟨_, .box 25 _, _, _, _, _⟩ :: _) _ _); refine wpList_box1 rfl 25 _ rfl (.pointer (some ⟨hb, 0, none⟩)) rfl rfl ?_; intro wa hB hL hs; replace cur := cur.push hL hB (Nat.le_refl _) rfl; clear hB hL hs) | ((with_reducible show wpList _ _ _ (⟨_, .box 3 _, _, _, _, _⟩ :: _) _ _); refine wpList_box1 rfl 3 _ rfl (.int .i64 1) rfl rfl ?_; intro wb hB hL hs; replace cur := cur.push hL hB (Nat.le_refl _) rfl; clear hB hL hs) | ((with_reducible show wpList _ _ _ (⟨_, .box 40 (.tmp 2), _, _, _, _⟩ :: _) _ _); refine wpList_box_blk rfl 40 _ rfl (#[.string q, .int .i64 0]) rfl ?_; intro wc hB hL hs; replace cur := cur.push hL hB (Nat.le_refl _) rfl; clear hB hL hs) | ((with_reducible show wpList _ _ _ (⟨some 6, .alloc 43, _, _, _, _⟩ :: _) _ _); refine wpList_alloc_blk rfl 43 rfl (dArr Dc.d0) zero43 ?_; intro wr hB hL hs; have hler := cur.k.size; replace cur := cur.push hL hB (Nat.le_refl _) rfl; clear hB hL hs) | ((with_reducible show wpList _ _ _ (⟨_, .load 25 (.tmp 3), _, _, _, _⟩ :: _) _ _); refine wpList_load1 (by rfl) 25 _ rfl _ 0 rfl (.pointer (some ⟨hb, 0, none⟩)) (Tryz.isAgg25 _) ((cur.blk 3 rfl).cell 0) ?_) | (go_at_call 117; refine (wown_t cur.s hf hd 118 _ (enters_of Tryz.func118 (by kernel_rfl) rfl) (fun _ => True) thrArr (fun f e l => f = fuel - 1 - 1 ∧ e = ext ∧ l = L) (fun W1 s1 k1 => xcown_thr (hX.keeps (cur.k.trans k1)) q hq (by omega) (by omega) hI hx h0 (cur.go s1 k1).again.tail)).mono ?_; rintro e wX ⟨x, bt, tp', fl, ex, L2, rfl, rfl, s9, k9, hnb, hbb, rfl, rfl, rfl⟩; unfold errT; replace cur := cur.go s9 k9; have hw9 := cur.k.size) | ((with_reducible show wpList _ _ _ (⟨some 9, .alloc 192, _, _, _, _⟩ :: _) _ _); refine wpList_alloc_blk rfl 192 rfl (wArr (Dc.d0, false)) zero192 ?_; intro wq hB hL hs; replace hbb := hbb.next hL; have hleq := cur.k.size; replace cur := cur.push hL hB (Nat.le_refl _) rfl; clear hB hL hs) | ((with_reducible show wpList _ _ _ (⟨_, .store 192 (.tmp 9) _, _, _, _, _⟩ :: _) _ _); refine wpList_store_blk rfl 192 _ _ rfl _ (wArr (Dc.d0, false)) _ 192 rfl rfl (cur.blk 0 rfl) Tryz.size192 rfl (wCells_one _) ?_; intro wg hB hO; replace hbb := hbb.only hO (by simpa using hbb.ne (cur.blk 0 rfl) (by decide)); replace cur := cur.set 0 rfl hO hB hleq; clear hB hO))
  refine Ord.region (fun W => Has W ([(wX.heap.size, wArr (Dc.d0, false), 192)])) [4, 7] (by kernel_rfl) (cur.drew.has (by simp)) ?_
  intro hS
  replace cur := cur.drew
  refine Ord.tp 0 17 rfl rfl ?_
  refine Ord.tk 1 18 rfl rfl (yieldsIf_load_mid (by rfl) 43 _ rfl wX.heap.size 0 rfl ([.int .i64 Dc.d0.val.kind, .bool Dc.d0.val.bool, .float .f64 Dc.d0.val.num, .string Dc.d0.val.str, .int .i64 Dc.d0.val.id, .int .i64 Dc.d0.get.kind, .bool Dc.d0.get.bool, .float .f64 Dc.d0.get.num, .string Dc.d0.get.str, .int .i64 Dc.d0.get.id, .int .i64 Dc.d0.set.kind, .bool Dc.d0.set.bool, .float .f64 Dc.d0.set.num, .string Dc.d0.set.str, .int .i64 Dc.d0.set.id, .int .i64 Dc.d0.w, .int .i64 Dc.d0.e, .int .i64 Dc.d0.c]) _ (fun W hSW => range_own (hSW.blk 0 rfl)) Tryz.underlying43 rfl Tryz.size43) ?_
  refine Ord.tp 2 19 rfl rfl ?_
  refine Ord.tk 3 20 rfl rfl (yields_load1 (by rfl) 4 _ rfl wX.heap.size 18 rfl (.bool false) Tryz.isAgg4 (fun W hSW => (hSW.blk 0 rfl).cell 18)) ?_
  refine Ord.tf 4 21 rfl rfl ?_
  refine Ord.step (i := 5) rfl (by kernel_rfl) (by rfl) ?_
  intro K HK
  refine store_blk_op 43 (.tmp 6) (.tmp 18) rfl _ (dArr Dc.d0) (dArr Dc.d0) 43 rfl rfl (cur.blk 1 rfl) Tryz.size43 rfl (dCells_one _) ?_
  intro wi hBi hOi
  replace hbb := hbb.drewB.only hOi (by simpa using hbb.drewB.ne (cur.blk 1 rfl) (by decide))
  replace cur := cur.set 1 rfl hOi hBi hler
  clear hBi hOi
  refine HK.out _ _ ?_
  clear HK
  refine Ord.kp ?_ ?_
  · exact cur.has (by simp)
  clear hS
  intro hS
  try simp only [List.setIfInBounds_toArray, List.set_cons_zero, List.set_cons_succ]
  refine Ord.step (i := 6) rfl (by kernel_rfl) (by rfl) ?_
  intro K HK
  go_simp
  refine HK.out _ _ ?_
  clear HK
  refine ⟨Ord.np (by kernel_rfl), ?_⟩
  try simp only [List.setIfInBounds_toArray, List.set_cons_zero, List.set_cons_succ]
  refine Ord.tf 7 8 rfl rfl ?_
  refine Ord.done (by kernel_rfl) ?_ _
  clear hS
  go_wp2
  exact bodyPost_ret (results_cell_tmp2 Tryz.results66 rfl (cur.blk 1 rfl) Tryz.row43 Tryz.size43) rfl ⟨bt, tp', rfl, hnb, hbb, cur.s, cur.k⟩



end Go.Proofs.YtoalboilghgalaaGreatDoor

/- A namespace's DefineOwnProperty of a string. -/
namespace Go.Proofs.YtoalboilghgalaaGreatDoor
open Go.RowKit
open Go.Proofs.Dc (V Ds Ky)
attribute [local go_sem] run_store_float

/-- some boolean is told -/
def DidB (n0 : Nat) (w : World) (hb : Nat) (ov : Value) (ob : Nat) (cap fuel deep : Int) (kd : Kd) (ext : Bool) (L : List (Ky × Ds)) (e : Ending) (w' : World) : Prop :=
  ∃ x tp, e = .returned (.tuple #[.bool x, .nilIface]) ∧ StX n0 w' hb ov ob tp cap fuel deep kd ext L ∧ Keeps n0 w w'
/-- false, and an error that is thrown -/
def DidTB (n0 : Nat) (w : World) (hb : Nat) (ov : Value) (ob : Nat) (cap fuel deep : Int) (kd : Kd) (ext : Bool) (L : List (Ky × Ds)) (e : Ending) (w' : World) : Prop :=
  ∃ b tp, e = .returned (.tuple #[.bool false, errT b]) ∧ n0 ≤ b ∧ Blk w' b thrArr 206 ∧ StX n0 w' hb ov ob tp cap fuel deep kd ext L ∧ Keeps n0 w w'
theorem ndef_none {n0 : Nat} {w : World} {hb : Nat} {ov : Value} {ob : Nat} {tp : Option Addr} {cap fuel deep : Int} {xb : Nat} {ext : Bool} {L : List (Ky × Ds)} (s : StX n0 w hb ov ob tp cap fuel deep (kN xb) ext L) (hf : 1 < fuel ∧ fuel ≤ 9223372036854775807) (hd : 0 ≤ deep ∧ deep < 9) {g xc : Nat} {a : Option Addr} {l : List Ex} (hX : XAt w xb g xc a l) (q : ByteArray) (hq : q.size + 2 ≤ 1099511627776) (d : Ds) (hI : xIdx l q = none) : Calls Tryz.prog 279 #[.pointer (some ⟨xb, 0, none⟩), .pointer (some ⟨hb, 0, none⟩), .int .i64 1, .agg #[.string q, .int .i64 0], .agg (dArr d)] w fun e w' => DidE (.tuple #[.bool false, .nilIface]) n0 w hb ov ob cap (fuel - 1) deep (kN xb) ext L e w' := by
  have HFD := Lib.hid (And.intro hf hd)
  have cur := Bag.start s
  clear s hf hd
  go_enter Tryz.func279, Tryz.ntmps279
  go_wp2_with (first | ((with_reducible show wpList _ _ _ (⟨_, .box 40 _, _, _, _, _⟩ :: _) _ _); refine wpList_box_blk rfl 40 _ rfl (#[.string q, .int .i64 0]) rfl ?_; intro wk hB hL hs; replace cur := cur.push hL hB (Nat.le_refl _) rfl; clear hB hL hs) | ((with_reducible show wpList _ _ _ (⟨_, .box 43 _, _, _, _, _⟩ :: _) _ _); refine wpList_box_blk rfl 43 _ rfl (dArr d) rfl ?_; intro wd hB hL hs; replace cur := cur.push hL hB (Nat.le_refl _) rfl; clear hB hL hs; have hk1 := (cur.blk 1 rfl).cell 1) | ((with_reducible show wpList _ _ _ (⟨_, .load 40 (.tmp 8), _, _, _, _⟩ :: _) _ _); refine wpList_load_blk rfl 40 _ rfl _ rfl (show Blk _ _ (#[.string q, .int .i64 0]) 40 from cur.blk 1 rfl) Tryz.row40 Tryz.size40 ?_) | (go_at_call 66; refine (xeown_none cur.s HFD.out.1 HFD.out.2 (hX.keeps cur.k) q hq hI).mono ?_; rintro e wG ⟨tp2, rfl, s9, k9⟩; replace cur := cur.go s9 k9; have hle := cur.k.size; clear s9 k9 hk1) | ((with_reducible show wpList _ _ _ (⟨some 12, .alloc 43, _, _, _, _⟩ :: _) _ _); refine wpList_alloc_blk rfl 43 rfl (dArr Dc.d0) zero43 ?_; intro wn hB hL hs; replace cur := cur.push hL hB (Nat.le_refl _) rfl; clear hB hL hs) | ((with_reducible show wpList _ _ _ (⟨_, .store 43 (.tmp 12) _, _, _, _, _⟩ :: _) _ _); refine wpList_store_blk rfl 43 _ _ rfl _ (dArr Dc.d0) _ 43 rfl rfl (cur.blk 0 rfl) Tryz.size43 rfl (dCells_one _) ?_; intro wo hB hO; replace cur := cur.set 0 rfl hO hB hle; clear hB hO))
  go_ret2
  exact ⟨tp2, rfl, cur.s, cur.k⟩

theorem ndef_some {n0 : Nat} {w : World} {hb : Nat} {ov : Value} {ob : Nat} {tp : Option Addr} {cap fuel deep : Int} {xb : Nat} {ext : Bool} {L : List (Ky × Ds)} (s : StX n0 w hb ov ob tp cap fuel deep (kN xb) ext L) (hf : 1 < fuel ∧ fuel ≤ 9223372036854775807) (hd : 0 ≤ deep ∧ deep < 9) {g xc : Nat} {a : Option Addr} {l : List Ex} (hX : XAt w xb g xc a l) (q : ByteArray) (hq : q.size + 2 ≤ 1099511627776) (d : Ds) {i : Nat} {z : Ex} (hI : xIdx l q = some i) (hx : l[i]? = some z) (h0 : ¬ z.val.kind = 0) (hnd : Nums d) (hzn : z.val.num < 2 ^ 64) : Calls Tryz.prog 279 #[.pointer (some ⟨xb, 0, none⟩), .pointer (some ⟨hb, 0, none⟩), .int .i64 1, .agg #[.string q, .int .i64 0], .agg (dArr d)] w fun e w' => DidB n0 w hb ov ob cap (fuel - 1 - 1) deep (kN xb) ext L e w' := by
  have HFD := Lib.hid (And.intro hf hd)
  have hgo : (d.get.kind != 0) = true ∨ ((d.get.kind != 0) = false ∧ (d.set.kind != 0) = true) ∨ ((d.get.kind != 0) = false ∧ (d.set.kind != 0) = false) := by
    cases (d.get.kind != 0) <;> cases (d.set.kind != 0) <;> simp
  have hgc : (d.c == 2) = true ∨ ((d.c == 2) = false ∧ (d.e == 1) = true) ∨ ((d.c == 2) = false ∧ (d.e == 1) = false ∧ (d.w == 1) = true) ∨ ((d.c == 2) = false ∧ (d.e == 1) = false ∧ (d.w == 1) = false) := by
    cases (d.c == 2) <;> cases (d.e == 1) <;> cases (d.w == 1) <;> simp
  have cur := Bag.start s
  clear s hf hd
  go_enter Tryz.func279, Tryz.ntmps279
  rcases hgo with g1 | ⟨g1, g2⟩ | ⟨g1, g2⟩
  all_goals rcases hgc with c2 | ⟨c2, e1⟩ | ⟨c2, e1, w1⟩ | ⟨c2, e1, w1⟩
  all_goals go_wp2_with (first | ((with_reducible show wpList _ _ _ (⟨_, .box 40 _, _, _, _, _⟩ :: _) _ _); refine wpList_box_blk rfl 40 _ rfl (#[.string q, .int .i64 0]) rfl ?_; intro wk hB hL hs; replace cur := cur.push hL hB (Nat.le_refl _) rfl; clear hB hL hs) | ((with_reducible show wpList _ _ _ (⟨_, .box 43 _, _, _, _, _⟩ :: _) _ _); refine wpList_box_blk rfl 43 _ rfl (dArr d) rfl ?_; intro wd hB hL hs; replace cur := cur.push hL hB (Nat.le_refl _) rfl; clear hB hL hs; have hk1 := (cur.blk 1 rfl).cell 1) | ((with_reducible show wpList _ _ _ (⟨_, .load 40 (.tmp 8), _, _, _, _⟩ :: _) _ _); refine wpList_load_blk rfl 40 _ rfl _ rfl (show Blk _ _ (#[.string q, .int .i64 0]) 40 from cur.blk 1 rfl) Tryz.row40 Tryz.size40 ?_) | (go_at_call 66; refine (xeown_some cur.s HFD.out.1 HFD.out.2 (hX.keeps cur.k) q hq hI hx h0).mono ?_; rintro e wG ⟨tp2, rfl, s9, k9⟩; replace cur := cur.go s9 k9; have hle := cur.k.size; clear s9 k9 hk1) | ((with_reducible show wpList _ _ _ (⟨some 12, .alloc 43, _, _, _, _⟩ :: _) _ _); refine wpList_alloc_blk rfl 43 rfl (dArr Dc.d0) zero43 ?_; intro wn hB hL hs; replace cur := cur.push hL hB (Nat.le_refl _) rfl; clear hB hL hs) | ((with_reducible show wpList _ _ _ (⟨_, .store 43 (.tmp 12) _, _, _, _, _⟩ :: _) _ _); refine wpList_store_blk rfl 43 _ _ rfl _ (dArr (xDs z.val)) _ 43 rfl rfl (cur.blk 0 rfl) Tryz.size43 rfl (dCells_one _) ?_; intro wo hB hO; replace cur := cur.set 0 rfl hO hB hle; clear hB hO; have c5 : _ = some (Value.int .i64 d.get.kind) := (cur.blk 1 rfl).cell 5; have c10 : _ = some (Value.int .i64 d.set.kind) := (cur.blk 1 rfl).cell 10; have c15 : _ = some (Value.int .i64 d.w) := (cur.blk 1 rfl).cell 15; have c16 : _ = some (Value.int .i64 d.e) := (cur.blk 1 rfl).cell 16; have c17 : _ = some (Value.int .i64 d.c) := (cur.blk 1 rfl).cell 17; have c0 : _ = some (Value.int .i64 d.val.kind) := (cur.blk 1 rfl).cell 0) | ((with_reducible show wpList _ _ _ (⟨some 79, .load 36 _, _, _, _, _⟩ :: _) _ _); refine wpList_load_mid rfl 36 _ rfl wk.heap.size 0 rfl [.int .i64 d.val.kind, .bool d.val.bool, .float .f64 d.val.num, .string d.val.str, .int .i64 d.val.id] _ (fun j v hv => by have hj : j < 5 := (List.getElem?_eq_some_iff.1 hv).1; rw [Nat.zero_add, (cur.blk 1 rfl).cell]; match j, hj with | 0, _ => exact hv | 1, _ => exact hv | 2, _ => exact hv | 3, _ => exact hv | 4, _ => exact hv) Tryz.underlying36 rfl Tryz.size36 ?_) | ((with_reducible show wpList _ _ _ (⟨some 81, .load 36 _, _, _, _, _⟩ :: _) _ _); refine wpList_load_mid rfl 36 _ rfl wG.heap.size 0 rfl [.int .i64 z.val.kind, .bool z.val.bool, .float .f64 z.val.num, .string z.val.str, .int .i64 z.val.id] _ (fun j v hv => by have hj : j < 5 := (List.getElem?_eq_some_iff.1 hv).1; rw [Nat.zero_add, (cur.blk 0 rfl).cell]; match j, hj with | 0, _ => exact hv | 1, _ => exact hv | 2, _ => exact hv | 3, _ => exact hv | 4, _ => exact hv) Tryz.underlying36 rfl Tryz.size36 ?_) | (go_at_call 230; refine (same_any d.val z.val _ cur.s.tabs hnd.1 hzn).mono ?_; rintro e wS ⟨rfl, hbS⟩; replace cur := cur.next hbS; clear hbS c0 c5 c10 c15 c16 c17))
  all_goals go_ret2
  all_goals exact ⟨_, tp2, rfl, cur.s, cur.k⟩

theorem ndef_thr {n0 : Nat} {w : World} {hb : Nat} {ov : Value} {ob : Nat} {tp : Option Addr} {cap fuel deep : Int} {xb : Nat} {ext : Bool} {L : List (Ky × Ds)} (s : StX n0 w hb ov ob tp cap fuel deep (kN xb) ext L) (hf : 1 < fuel ∧ fuel ≤ 9223372036854775807) (hd : 0 ≤ deep ∧ deep < 9) {g xc : Nat} {a : Option Addr} {l : List Ex} (hX : XAt w xb g xc a l) (q : ByteArray) (hq : q.size + 2 ≤ 1099511627776) (d : Ds) {i : Nat} {z : Ex} (hI : xIdx l q = some i) (hx : l[i]? = some z) (h0 : z.val.kind = 0) : Calls Tryz.prog 279 #[.pointer (some ⟨xb, 0, none⟩), .pointer (some ⟨hb, 0, none⟩), .int .i64 1, .agg #[.string q, .int .i64 0], .agg (dArr d)] w fun e w' => DidTB n0 w hb ov ob cap (fuel - 1 - 1) deep (kN xb) ext L e w' := by
  have HFD := Lib.hid (And.intro hf hd)
  have cur := Bag.start s
  clear s hf hd
  go_enter Tryz.func279, Tryz.ntmps279
  go_wp2_with (first | ((with_reducible show wpList _ _ _ (⟨_, .box 40 _, _, _, _, _⟩ :: _) _ _); refine wpList_box_blk rfl 40 _ rfl (#[.string q, .int .i64 0]) rfl ?_; intro wk hB hL hs; replace cur := cur.push hL hB (Nat.le_refl _) rfl; clear hB hL hs) | ((with_reducible show wpList _ _ _ (⟨_, .box 43 _, _, _, _, _⟩ :: _) _ _); refine wpList_box_blk rfl 43 _ rfl (dArr d) rfl ?_; intro wd hB hL hs; replace cur := cur.push hL hB (Nat.le_refl _) rfl; clear hB hL hs; have hk1 := (cur.blk 1 rfl).cell 1) | ((with_reducible show wpList _ _ _ (⟨_, .load 40 (.tmp 8), _, _, _, _⟩ :: _) _ _); refine wpList_load_blk rfl 40 _ rfl _ rfl (show Blk _ _ (#[.string q, .int .i64 0]) 40 from cur.blk 1 rfl) Tryz.row40 Tryz.size40 ?_) | (go_at_call 66; refine (xeown_thr cur.s HFD.out.1 HFD.out.2 (hX.keeps cur.k) q hq hI hx h0).mono ?_; rintro e wG ⟨bt, tp2, rfl, hnb, hbb, s9, k9⟩; unfold errT; replace cur := cur.go s9 k9; have hle := cur.k.size; clear s9 k9 hk1) | ((with_reducible show wpList _ _ _ (⟨some 12, .alloc 43, _, _, _, _⟩ :: _) _ _); refine wpList_alloc_blk rfl 43 rfl (dArr Dc.d0) zero43 ?_; intro wn hB hL hs; replace hbb := hbb.next hL; replace cur := cur.push hL hB (Nat.le_refl _) rfl; clear hB hL hs) | ((with_reducible show wpList _ _ _ (⟨_, .store 43 (.tmp 12) _, _, _, _, _⟩ :: _) _ _); refine wpList_store_blk rfl 43 _ _ rfl _ (dArr Dc.d0) _ 43 rfl rfl (cur.blk 0 rfl) Tryz.size43 rfl (dCells_one _) ?_; intro wo hB hO; replace hbb := hbb.only hO (by simpa using hbb.ne (cur.blk 0 rfl) (by decide)); replace cur := cur.set 0 rfl hO hB hle; clear hB hO))
  go_ret2
  exact ⟨bt, tp2, rfl, hnb, hbb, cur.s, cur.k⟩


end Go.Proofs.YtoalboilghgalaaGreatDoor

/- A namespace: EnterDefineOwnProperty, EnterPreventExtensions. -/
namespace Go.Proofs.YtoalboilghgalaaGreatDoor
open Go.RowKit
open Go.Proofs.Dc (V Ds Ky)
attribute [local go_sem] run_store_float

theorem xcdef_none {n0 : Nat} {w : World} {hb : Nat} {ov : Value} {ob : Nat} {tp : Option Addr} {cap fuel deep : Int} {xb : Nat} {ext : Bool} {L : List (Ky × Ds)} {bh bi bk bd : Nat} {g xc : Nat} {a : Option Addr} {l : List Ex} (hX : XAt w xb g xc a l) (q : ByteArray) (hq : q.size + 2 ≤ 1099511627776) (d : Ds) (hf : 1 < fuel ∧ fuel ≤ 9223372036854775807) (hd : 0 ≤ deep ∧ deep < 9) (hI : xIdx l q = none) (cur : Bag n0 w w hb ov ob tp cap fuel deep (kN xb) ext L [(bd, dArr d, 43), (bk, #[.string q, .int .i64 0], 40), (bi, #[.int .i64 1], 3), (bh, #[.pointer (some ⟨hb, 0, none⟩)], 25)]) : Calls Tryz.prog 107 #[.pointer (some ⟨bh, 0, none⟩), .pointer (some ⟨bi, 0, none⟩), .pointer (some ⟨bk, 0, none⟩), .pointer (some ⟨bd, 0, none⟩)] w (GivesE (fun x => .bool x) (fun x f e l _ => x = false ∧ f = fuel - 1 ∧ e = ext ∧ l = L) n0 w hb ov ob cap deep (kN xb)) := by
  have hm := xmDefineOwnProperty xb
  have hmv : (kN xb).mv = .iface 157 (.pointer (some ⟨xb, 0, none⟩)) := rfl
  go_enter Tryz.func107, Tryz.ntmps107
  go_wp2_with fail
  refine Ord.region (fun W => Has W ([(bd, dArr d, 43), (bk, #[.string q, .int .i64 0], 40), (bi, #[.int .i64 1], 3), (bh, #[.pointer (some ⟨hb, 0, none⟩)], 25)])) [8, 9, 10, 11] (by kernel_rfl) (cur.drew.has (by simp)) ?_
  intro hS
  replace cur := cur.drew
  refine Ord.tk 0 6 rfl rfl (yields_load1 (by rfl) 25 _ rfl bh 0 rfl (.pointer (some ⟨hb, 0, none⟩)) Tryz.isAgg25 (fun W hSW => (hSW.blk 3 rfl).cell 0)) ?_
  refine Ord.tk 1 7 rfl rfl (yields_load1 (by rfl) 3 _ rfl bi 0 rfl (.int .i64 1) Tryz.isAgg3 (fun W hSW => (hSW.blk 2 rfl).cell 0)) ?_
  refine Ord.tk 3 9 rfl rfl (yields_load1 (by rfl) 25 _ rfl bh 0 rfl (.pointer (some ⟨hb, 0, none⟩)) Tryz.isAgg25 (fun W hSW => (hSW.blk 3 rfl).cell 0)) ?_
  refine Ord.tk 4 10 rfl rfl (yields_load1 (by rfl) 3 _ rfl bi 0 rfl (.int .i64 1) Tryz.isAgg3 (fun W hSW => (hSW.blk 2 rfl).cell 0)) ?_
  refine Ord.tk 5 11 rfl rfl (yieldsIf_load_mid (by rfl) 40 _ rfl bk 0 rfl ([.string q, .int .i64 0]) _ (fun W hSW => range_all (hSW.blk 1 rfl)) Tryz.underlying40 rfl Tryz.size40) ?_
  refine Ord.tk 6 12 rfl rfl (yieldsIf_load_mid (by rfl) 43 _ rfl bd 0 rfl ([.int .i64 d.val.kind, .bool d.val.bool, .float .f64 d.val.num, .string d.val.str, .int .i64 d.val.id, .int .i64 d.get.kind, .bool d.get.bool, .float .f64 d.get.num, .string d.get.str, .int .i64 d.get.id, .int .i64 d.set.kind, .bool d.set.bool, .float .f64 d.set.num, .string d.set.str, .int .i64 d.set.id, .int .i64 d.w, .int .i64 d.e, .int .i64 d.c]) _ (fun W hSW => range_all (hSW.blk 0 rfl)) Tryz.underlying43 rfl Tryz.size43) ?_
  refine Ord.step (i := 2) rfl (by kernel_rfl) (by rfl) ?_
  intro K HK
  go_simp
  go_at_call 108
  refine (does_any cur.s).mono ?_
  rintro e wX ⟨rfl, rfl⟩
  refine HK.out _ _ ?_
  clear HK
  refine Ord.kp ?_ ?_
  · exact cur.has (by simp)
  clear hS
  intro hS
  try simp only [List.setIfInBounds_toArray, List.set_cons_zero, List.set_cons_succ]
  refine Ord.step (i := 7) rfl (by kernel_rfl) (by rfl) ?_
  intro K HK
  go_simp
  go_at_call 279
  refine (ndef_none cur.s hf hd (hX.keeps cur.k) q hq d hI).mono ?_
  rintro e wY ⟨tp2, rfl, s9, k9⟩
  replace cur := cur.go s9 k9
  clear s9 k9
  refine HK.out _ _ ?_
  clear HK
  refine ⟨Ord.np (by kernel_rfl), ?_⟩
  try simp only [List.setIfInBounds_toArray, List.set_cons_zero, List.set_cons_succ]
  refine Ord.tf 8 14 rfl rfl ?_
  refine Ord.tf 9 15 rfl rfl ?_
  refine Ord.tf 10 4 rfl rfl ?_
  refine Ord.tf 11 5 rfl rfl ?_
  refine Ord.done (by kernel_rfl) ?_ _
  clear hS
  go_wp2
  go_ret2
  exact ⟨_, tp2, _, ext, L, rfl, cur.s, cur.k, rfl, rfl, rfl, rfl⟩


theorem xcdef_some {n0 : Nat} {w : World} {hb : Nat} {ov : Value} {ob : Nat} {tp : Option Addr} {cap fuel deep : Int} {xb : Nat} {ext : Bool} {L : List (Ky × Ds)} {bh bi bk bd : Nat} {g xc : Nat} {a : Option Addr} {l : List Ex} (hX : XAt w xb g xc a l) (q : ByteArray) (hq : q.size + 2 ≤ 1099511627776) (d : Ds) (hf : 1 < fuel ∧ fuel ≤ 9223372036854775807) (hd : 0 ≤ deep ∧ deep < 9) {i : Nat} {z : Ex} (hI : xIdx l q = some i) (hx : l[i]? = some z) (h0 : ¬ z.val.kind = 0) (hnd : Nums d) (hzn : z.val.num < 2 ^ 64) (cur : Bag n0 w w hb ov ob tp cap fuel deep (kN xb) ext L [(bd, dArr d, 43), (bk, #[.string q, .int .i64 0], 40), (bi, #[.int .i64 1], 3), (bh, #[.pointer (some ⟨hb, 0, none⟩)], 25)]) : Calls Tryz.prog 107 #[.pointer (some ⟨bh, 0, none⟩), .pointer (some ⟨bi, 0, none⟩), .pointer (some ⟨bk, 0, none⟩), .pointer (some ⟨bd, 0, none⟩)] w (GivesE (fun x => .bool x) (fun x f e l _ => f = fuel - 1 - 1 ∧ e = ext ∧ l = L) n0 w hb ov ob cap deep (kN xb)) := by
  have hm := xmDefineOwnProperty xb
  have hmv : (kN xb).mv = .iface 157 (.pointer (some ⟨xb, 0, none⟩)) := rfl
  go_enter Tryz.func107, Tryz.ntmps107
  go_wp2_with fail
  refine Ord.region (fun W => Has W ([(bd, dArr d, 43), (bk, #[.string q, .int .i64 0], 40), (bi, #[.int .i64 1], 3), (bh, #[.pointer (some ⟨hb, 0, none⟩)], 25)])) [8, 9, 10, 11] (by kernel_rfl) (cur.drew.has (by simp)) ?_
  intro hS
  replace cur := cur.drew
  refine Ord.tk 0 6 rfl rfl (yields_load1 (by rfl) 25 _ rfl bh 0 rfl (.pointer (some ⟨hb, 0, none⟩)) Tryz.isAgg25 (fun W hSW => (hSW.blk 3 rfl).cell 0)) ?_
  refine Ord.tk 1 7 rfl rfl (yields_load1 (by rfl) 3 _ rfl bi 0 rfl (.int .i64 1) Tryz.isAgg3 (fun W hSW => (hSW.blk 2 rfl).cell 0)) ?_
  refine Ord.tk 3 9 rfl rfl (yields_load1 (by rfl) 25 _ rfl bh 0 rfl (.pointer (some ⟨hb, 0, none⟩)) Tryz.isAgg25 (fun W hSW => (hSW.blk 3 rfl).cell 0)) ?_
  refine Ord.tk 4 10 rfl rfl (yields_load1 (by rfl) 3 _ rfl bi 0 rfl (.int .i64 1) Tryz.isAgg3 (fun W hSW => (hSW.blk 2 rfl).cell 0)) ?_
  refine Ord.tk 5 11 rfl rfl (yieldsIf_load_mid (by rfl) 40 _ rfl bk 0 rfl ([.string q, .int .i64 0]) _ (fun W hSW => range_all (hSW.blk 1 rfl)) Tryz.underlying40 rfl Tryz.size40) ?_
  refine Ord.tk 6 12 rfl rfl (yieldsIf_load_mid (by rfl) 43 _ rfl bd 0 rfl ([.int .i64 d.val.kind, .bool d.val.bool, .float .f64 d.val.num, .string d.val.str, .int .i64 d.val.id, .int .i64 d.get.kind, .bool d.get.bool, .float .f64 d.get.num, .string d.get.str, .int .i64 d.get.id, .int .i64 d.set.kind, .bool d.set.bool, .float .f64 d.set.num, .string d.set.str, .int .i64 d.set.id, .int .i64 d.w, .int .i64 d.e, .int .i64 d.c]) _ (fun W hSW => range_all (hSW.blk 0 rfl)) Tryz.underlying43 rfl Tryz.size43) ?_
  refine Ord.step (i := 2) rfl (by kernel_rfl) (by rfl) ?_
  intro K HK
  go_simp
  go_at_call 108
  refine (does_any cur.s).mono ?_
  rintro e wX ⟨rfl, rfl⟩
  refine HK.out _ _ ?_
  clear HK
  refine Ord.kp ?_ ?_
  · exact cur.has (by simp)
  clear hS
  intro hS
  try simp only [List.setIfInBounds_toArray, List.set_cons_zero, List.set_cons_succ]
  refine Ord.step (i := 7) rfl (by kernel_rfl) (by rfl) ?_
  intro K HK
  go_simp
  go_at_call 279
  refine (ndef_some cur.s hf hd (hX.keeps cur.k) q hq d hI hx h0 hnd hzn).mono ?_
  rintro e wY ⟨x, tp2, rfl, s9, k9⟩
  replace cur := cur.go s9 k9
  clear s9 k9
  refine HK.out _ _ ?_
  clear HK
  refine ⟨Ord.np (by kernel_rfl), ?_⟩
  try simp only [List.setIfInBounds_toArray, List.set_cons_zero, List.set_cons_succ]
  refine Ord.tf 8 14 rfl rfl ?_
  refine Ord.tf 9 15 rfl rfl ?_
  refine Ord.tf 10 4 rfl rfl ?_
  refine Ord.tf 11 5 rfl rfl ?_
  refine Ord.done (by kernel_rfl) ?_ _
  clear hS
  go_wp2
  go_ret2
  exact ⟨_, tp2, _, ext, L, rfl, cur.s, cur.k, rfl, rfl, rfl⟩


theorem xcdef_thr {n0 : Nat} {w : World} {hb : Nat} {ov : Value} {ob : Nat} {tp : Option Addr} {cap fuel deep : Int} {xb : Nat} {ext : Bool} {L : List (Ky × Ds)} {bh bi bk bd : Nat} {g xc : Nat} {a : Option Addr} {l : List Ex} (hX : XAt w xb g xc a l) (q : ByteArray) (hq : q.size + 2 ≤ 1099511627776) (d : Ds) (hf : 1 < fuel ∧ fuel ≤ 9223372036854775807) (hd : 0 ≤ deep ∧ deep < 9) {i : Nat} {z : Ex} (hI : xIdx l q = some i) (hx : l[i]? = some z) (h0 : z.val.kind = 0) (cur : Bag n0 w w hb ov ob tp cap fuel deep (kN xb) ext L [(bd, dArr d, 43), (bk, #[.string q, .int .i64 0], 40), (bi, #[.int .i64 1], 3), (bh, #[.pointer (some ⟨hb, 0, none⟩)], 25)]) : Calls Tryz.prog 107 #[.pointer (some ⟨bh, 0, none⟩), .pointer (some ⟨bi, 0, none⟩), .pointer (some ⟨bk, 0, none⟩), .pointer (some ⟨bd, 0, none⟩)] w (GivesT (α := Bool) (fun x => .bool x) (fun _ => True) thrArr (fun f e l => f = fuel - 1 - 1 ∧ e = ext ∧ l = L) n0 w hb ov ob cap deep (kN xb)) := by
  have hm := xmDefineOwnProperty xb
  have hmv : (kN xb).mv = .iface 157 (.pointer (some ⟨xb, 0, none⟩)) := rfl
  go_enter Tryz.func107, Tryz.ntmps107
  go_wp2_with fail
  refine Ord.region (fun W => Has W ([(bd, dArr d, 43), (bk, #[.string q, .int .i64 0], 40), (bi, #[.int .i64 1], 3), (bh, #[.pointer (some ⟨hb, 0, none⟩)], 25)])) [8, 9, 10, 11] (by kernel_rfl) (cur.drew.has (by simp)) ?_
  intro hS
  replace cur := cur.drew
  refine Ord.tk 0 6 rfl rfl (yields_load1 (by rfl) 25 _ rfl bh 0 rfl (.pointer (some ⟨hb, 0, none⟩)) Tryz.isAgg25 (fun W hSW => (hSW.blk 3 rfl).cell 0)) ?_
  refine Ord.tk 1 7 rfl rfl (yields_load1 (by rfl) 3 _ rfl bi 0 rfl (.int .i64 1) Tryz.isAgg3 (fun W hSW => (hSW.blk 2 rfl).cell 0)) ?_
  refine Ord.tk 3 9 rfl rfl (yields_load1 (by rfl) 25 _ rfl bh 0 rfl (.pointer (some ⟨hb, 0, none⟩)) Tryz.isAgg25 (fun W hSW => (hSW.blk 3 rfl).cell 0)) ?_
  refine Ord.tk 4 10 rfl rfl (yields_load1 (by rfl) 3 _ rfl bi 0 rfl (.int .i64 1) Tryz.isAgg3 (fun W hSW => (hSW.blk 2 rfl).cell 0)) ?_
  refine Ord.tk 5 11 rfl rfl (yieldsIf_load_mid (by rfl) 40 _ rfl bk 0 rfl ([.string q, .int .i64 0]) _ (fun W hSW => range_all (hSW.blk 1 rfl)) Tryz.underlying40 rfl Tryz.size40) ?_
  refine Ord.tk 6 12 rfl rfl (yieldsIf_load_mid (by rfl) 43 _ rfl bd 0 rfl ([.int .i64 d.val.kind, .bool d.val.bool, .float .f64 d.val.num, .string d.val.str, .int .i64 d.val.id, .int .i64 d.get.kind, .bool d.get.bool, .float .f64 d.get.num, .string d.get.str, .int .i64 d.get.id, .int .i64 d.set.kind, .bool d.set.bool, .float .f64 d.set.num, .string d.set.str, .int .i64 d.set.id, .int .i64 d.w, .int .i64 d.e, .int .i64 d.c]) _ (fun W hSW => range_all (hSW.blk 0 rfl)) Tryz.underlying43 rfl Tryz.size43) ?_
  refine Ord.step (i := 2) rfl (by kernel_rfl) (by rfl) ?_
  intro K HK
  go_simp
  go_at_call 108
  refine (does_any cur.s).mono ?_
  rintro e wX ⟨rfl, rfl⟩
  refine HK.out _ _ ?_
  clear HK
  refine Ord.kp ?_ ?_
  · exact cur.has (by simp)
  clear hS
  intro hS
  try simp only [List.setIfInBounds_toArray, List.set_cons_zero, List.set_cons_succ]
  refine Ord.step (i := 7) rfl (by kernel_rfl) (by rfl) ?_
  intro K HK
  go_simp
  go_at_call 279
  refine (ndef_thr cur.s hf hd (hX.keeps cur.k) q hq d hI hx h0).mono ?_
  rintro e wY ⟨bt, tp2, rfl, hnb, hbb, s9, k9⟩
  replace cur := cur.go s9 k9
  clear s9 k9
  refine HK.out _ _ ?_
  clear HK
  refine ⟨Ord.np (by kernel_rfl), ?_⟩
  try simp only [List.setIfInBounds_toArray, List.set_cons_zero, List.set_cons_succ]
  refine Ord.tf 8 14 rfl rfl ?_
  refine Ord.tf 9 15 rfl rfl ?_
  refine Ord.tf 10 4 rfl rfl ?_
  refine Ord.tf 11 5 rfl rfl ?_
  refine Ord.done (by kernel_rfl) ?_ _
  clear hS
  unfold errT
  go_wp2
  go_ret2
  exact ⟨_, bt, tp2, _, ext, L, rfl, trivial, cur.s, cur.k, hnb, hbb, rfl, rfl, rfl⟩


theorem xcdef_sym {n0 : Nat} {w : World} {hb : Nat} {ov : Value} {ob : Nat} {tp : Option Addr} {cap fuel deep : Int} {xb : Nat} {ext : Bool} {L : List (Ky × Ds)} {bh bi bk bd : Nat} {g xc : Nat} {a : Option Addr} {l : List Ex} (hX : XAt w xb g xc a l) (k : Ky) (hk : ¬ k.sym = 0) (d : Ds) (hg : kgood k = true) (hlen : L.length < 1000000) (hd : Nums d) (hkd : Dc.kindB uvalid d = true) (hn : LNums L) (hl : LOk L) (cur : Bag n0 w w hb ov ob tp cap fuel deep (kN xb) ext L [(bd, dArr d, 43), (bk, kArr k, 40), (bi, #[.int .i64 1], 3), (bh, #[.pointer (some ⟨hb, 0, none⟩)], 25)]) : Calls Tryz.prog 107 #[.pointer (some ⟨bh, 0, none⟩), .pointer (some ⟨bi, 0, none⟩), .pointer (some ⟨bk, 0, none⟩), .pointer (some ⟨bd, 0, none⟩)] w (GivesE (fun x => .bool x) (fun x f e l _ => x = defB ext L k d ∧ f = fuel ∧ e = ext ∧ l = defL ext L k d) n0 w hb ov ob cap deep (kN xb)) := by
  have hm := xmDefineOwnProperty xb
  have hmv : (kN xb).mv = .iface 157 (.pointer (some ⟨xb, 0, none⟩)) := rfl
  go_enter Tryz.func107, Tryz.ntmps107
  go_wp2_with fail
  refine Ord.region (fun W => Has W ([(bd, dArr d, 43), (bk, kArr k, 40), (bi, #[.int .i64 1], 3), (bh, #[.pointer (some ⟨hb, 0, none⟩)], 25)])) [8, 9, 10, 11] (by kernel_rfl) (cur.drew.has (by simp)) ?_
  intro hS
  replace cur := cur.drew
  refine Ord.tk 0 6 rfl rfl (yields_load1 (by rfl) 25 _ rfl bh 0 rfl (.pointer (some ⟨hb, 0, none⟩)) Tryz.isAgg25 (fun W hSW => (hSW.blk 3 rfl).cell 0)) ?_
  refine Ord.tk 1 7 rfl rfl (yields_load1 (by rfl) 3 _ rfl bi 0 rfl (.int .i64 1) Tryz.isAgg3 (fun W hSW => (hSW.blk 2 rfl).cell 0)) ?_
  refine Ord.tk 3 9 rfl rfl (yields_load1 (by rfl) 25 _ rfl bh 0 rfl (.pointer (some ⟨hb, 0, none⟩)) Tryz.isAgg25 (fun W hSW => (hSW.blk 3 rfl).cell 0)) ?_
  refine Ord.tk 4 10 rfl rfl (yields_load1 (by rfl) 3 _ rfl bi 0 rfl (.int .i64 1) Tryz.isAgg3 (fun W hSW => (hSW.blk 2 rfl).cell 0)) ?_
  refine Ord.tk 5 11 rfl rfl (yieldsIf_load_mid (by rfl) 40 _ rfl bk 0 rfl ([.string k.str, .int .i64 k.sym]) _ (fun W hSW => range_all (hSW.blk 1 rfl)) Tryz.underlying40 rfl Tryz.size40) ?_
  refine Ord.tk 6 12 rfl rfl (yieldsIf_load_mid (by rfl) 43 _ rfl bd 0 rfl ([.int .i64 d.val.kind, .bool d.val.bool, .float .f64 d.val.num, .string d.val.str, .int .i64 d.val.id, .int .i64 d.get.kind, .bool d.get.bool, .float .f64 d.get.num, .string d.get.str, .int .i64 d.get.id, .int .i64 d.set.kind, .bool d.set.bool, .float .f64 d.set.num, .string d.set.str, .int .i64 d.set.id, .int .i64 d.w, .int .i64 d.e, .int .i64 d.c]) _ (fun W hSW => range_all (hSW.blk 0 rfl)) Tryz.underlying43 rfl Tryz.size43) ?_
  refine Ord.step (i := 2) rfl (by kernel_rfl) (by rfl) ?_
  intro K HK
  go_simp
  go_at_call 108
  refine (does_any cur.s).mono ?_
  rintro e wX ⟨rfl, rfl⟩
  refine HK.out _ _ ?_
  clear HK
  refine Ord.kp ?_ ?_
  · exact cur.has (by simp)
  clear hS
  intro hS
  try simp only [List.setIfInBounds_toArray, List.set_cons_zero, List.set_cons_succ]
  refine Ord.step (i := 7) rfl (by kernel_rfl) (by rfl) ?_
  intro K HK
  go_simp
  go_at_call 279
  refine (ndef_sym cur.s (hX.keeps cur.k) k hk d hg hlen hd hkd hn hl).mono ?_
  rintro e wY ⟨tp2, rfl, s9, k9⟩
  replace cur := cur.go s9 k9
  clear s9 k9
  refine HK.out _ _ ?_
  clear HK
  refine ⟨Ord.np (by kernel_rfl), ?_⟩
  try simp only [List.setIfInBounds_toArray, List.set_cons_zero, List.set_cons_succ]
  refine Ord.tf 8 14 rfl rfl ?_
  refine Ord.tf 9 15 rfl rfl ?_
  refine Ord.tf 10 4 rfl rfl ?_
  refine Ord.tf 11 5 rfl rfl ?_
  refine Ord.done (by kernel_rfl) ?_ _
  clear hS
  go_wp2
  go_ret2
  exact ⟨_, tp2, fuel, ext, _, rfl, cur.s, cur.k, rfl, rfl, rfl, rfl⟩


theorem xcprev {n0 : Nat} {w : World} {hb : Nat} {ov : Value} {ob : Nat} {tp : Option Addr} {cap fuel deep : Int} {xb : Nat} {ext : Bool} {L : List (Ky × Ds)} {bh bi : Nat} {g xc : Nat} {a : Option Addr} {l : List Ex} (hX : XAt w xb g xc a l) (cur : Bag n0 w w hb ov ob tp cap fuel deep (kN xb) ext L [(bi, #[.int .i64 1], 3), (bh, #[.pointer (some ⟨hb, 0, none⟩)], 25)]) : Calls Tryz.prog 111 #[.pointer (some ⟨bh, 0, none⟩), .pointer (some ⟨bi, 0, none⟩)] w (GivesE (fun x => .bool x) (fun x f e l _ => x = true ∧ f = fuel ∧ e = false ∧ l = L) n0 w hb ov ob cap deep (kN xb)) := by
  have hm := xmSet xb
  have hmv : (kN xb).mv = .iface 157 (.pointer (some ⟨xb, 0, none⟩)) := rfl
  go_enter Tryz.func111, Tryz.ntmps111
  go_wp2_with fail
  refine Ord.region (fun W => Has W ([(bi, #[.int .i64 1], 3), (bh, #[.pointer (some ⟨hb, 0, none⟩)], 25)])) [6, 7, 8, 9] (by kernel_rfl) (cur.drew.has (by simp)) ?_
  intro hS
  replace cur := cur.drew
  refine Ord.tk 0 4 rfl rfl (yields_load1 (by rfl) 25 _ rfl bh 0 rfl (.pointer (some ⟨hb, 0, none⟩)) Tryz.isAgg25 (fun W hSW => (hSW.blk 1 rfl).cell 0)) ?_
  refine Ord.tk 1 5 rfl rfl (yields_load1 (by rfl) 3 _ rfl bi 0 rfl (.int .i64 1) Tryz.isAgg3 (fun W hSW => (hSW.blk 0 rfl).cell 0)) ?_
  refine Ord.tk 3 7 rfl rfl (yields_load1 (by rfl) 25 _ rfl bh 0 rfl (.pointer (some ⟨hb, 0, none⟩)) Tryz.isAgg25 (fun W hSW => (hSW.blk 1 rfl).cell 0)) ?_
  refine Ord.tk 4 8 rfl rfl (yields_load1 (by rfl) 3 _ rfl bi 0 rfl (.int .i64 1) Tryz.isAgg3 (fun W hSW => (hSW.blk 0 rfl).cell 0)) ?_
  refine Ord.step (i := 2) rfl (by kernel_rfl) (by rfl) ?_
  intro K HK
  go_simp
  go_at_call 108
  refine (does_any cur.s).mono ?_
  rintro e wX ⟨rfl, rfl⟩
  refine HK.out _ _ ?_
  clear HK
  refine Ord.kp ?_ ?_
  · exact cur.has (by simp)
  clear hS
  intro hS
  try simp only [List.setIfInBounds_toArray, List.set_cons_zero, List.set_cons_succ]
  refine Ord.step (i := 5) rfl (by kernel_rfl) (by rfl) ?_
  intro K HK
  have hmW := xmPrev (hX.keeps cur.k).blk
  go_simp
  go_at_call 215
  refine (ordprev_any cur.s).mono ?_
  rintro e wY ⟨rfl, s9, k9⟩
  replace cur := cur.go s9 k9
  clear hmW
  refine HK.out _ _ ?_
  clear HK
  refine ⟨Ord.np (by kernel_rfl), ?_⟩
  try simp only [List.setIfInBounds_toArray, List.set_cons_zero, List.set_cons_succ]
  refine Ord.tf 6 10 rfl rfl ?_
  refine Ord.tf 7 11 rfl rfl ?_
  refine Ord.tf 8 2 rfl rfl ?_
  refine Ord.tf 9 3 rfl rfl ?_
  refine Ord.done (by kernel_rfl) ?_ _
  clear hS
  go_wp2
  go_ret2
  exact ⟨_, tp, fuel, false, L, rfl, cur.s, cur.k, rfl, rfl, rfl, rfl⟩


theorem xedef_none {n0 : Nat} {w : World} {hb : Nat} {ov : Value} {ob : Nat} {tp : Option Addr} {cap fuel deep : Int} {xb : Nat} {ext : Bool} {L : List (Ky × Ds)} (s : StX n0 w hb ov ob tp cap fuel deep (kN xb) ext L) (hf : 2 < fuel ∧ fuel ≤ 9223372036854775807) (hd : 0 ≤ deep ∧ deep < 8) {g xc : Nat} {a : Option Addr} {l : List Ex} (hX : XAt w xb g xc a l) (q : ByteArray) (hq : q.size + 2 ≤ 1099511627776) (d : Ds) (hI : xIdx l q = none) : Calls Tryz.prog 56 #[.pointer (some ⟨hb, 0, none⟩), .int .i64 1, .agg #[.string q, .int .i64 0], .agg (dArr d)] w fun e w' => DidE (.tuple #[.bool false, .nilIface]) n0 w hb ov ob cap (fuel - 1 - 1) deep (kN xb) ext L e w' := by
  have hf1 : 0 < fuel ∧ fuel ≤ 9223372036854775807 := by omega
  have hd1 : 0 ≤ deep ∧ deep < 10 := by omega
  have cur := Bag.start s
  clear s
  go_enter Tryz.func56, Tryz.ntmps56
  go_wp2_with (first | ((with_reducible show wpList _ _ _ (⟨_, .box 25 _, _, _, _, _⟩ :: _) _ _); refine wpList_box1 rfl 25 _ rfl (.pointer (some ⟨hb, 0, none⟩)) rfl rfl ?_; intro wa hB hL hs; replace cur := cur.push hL hB (Nat.le_refl _) rfl; clear hB hL hs) | ((with_reducible show wpList _ _ _ (⟨_, .box 3 _, _, _, _, _⟩ :: _) _ _); refine wpList_box1 rfl 3 _ rfl (.int .i64 1) rfl rfl ?_; intro wb hB hL hs; replace cur := cur.push hL hB (Nat.le_refl _) rfl; clear hB hL hs) | ((with_reducible show wpList _ _ _ (⟨_, .box 40 (.tmp 2), _, _, _, _⟩ :: _) _ _); refine wpList_box_blk rfl 40 _ rfl (#[.string q, .int .i64 0]) rfl ?_; intro wc hB hL hs; replace cur := cur.push hL hB (Nat.le_refl _) rfl; clear hB hL hs) | ((with_reducible show wpList _ _ _ (⟨_, .box 43 _, _, _, _, _⟩ :: _) _ _); refine wpList_box_blk rfl 43 _ rfl (dArr d) rfl ?_; intro wd hB hL hs; replace cur := cur.push hL hB (Nat.le_refl _) rfl; clear hB hL hs) | ((with_reducible show wpList _ _ _ (⟨_, .load 25 (.tmp 4), _, _, _, _⟩ :: _) _ _); refine wpList_load1 (by rfl) 25 _ rfl _ 0 rfl (.pointer (some ⟨hb, 0, none⟩)) (Tryz.isAgg25 _) ((cur.blk 3 rfl).cell 0) ?_) | (go_at_call 106; refine (wbool_g cur.s hf1 hd1 107 _ (enters_of Tryz.func107 (by kernel_rfl) rfl) (fun x f e l _ => x = false ∧ f = fuel - 1 - 1 ∧ e = ext ∧ l = L) (fun _ _ _ _ _ _ h _ => h) (fun W1 s1 k1 => xcdef_none (hX.keeps (cur.k.trans k1)) q hq d (by omega) (by omega) hI (cur.go s1 k1).again)).mono ?_; rintro e wX ⟨x, tp', fl, ex, L2, rfl, s9, k9, rfl, rfl, rfl, rfl⟩; replace cur := cur.go s9 k9))
  go_ret2
  exact ⟨tp', rfl, cur.s, cur.k⟩

theorem xedef_some {n0 : Nat} {w : World} {hb : Nat} {ov : Value} {ob : Nat} {tp : Option Addr} {cap fuel deep : Int} {xb : Nat} {ext : Bool} {L : List (Ky × Ds)} (s : StX n0 w hb ov ob tp cap fuel deep (kN xb) ext L) (hf : 2 < fuel ∧ fuel ≤ 9223372036854775807) (hd : 0 ≤ deep ∧ deep < 8) {g xc : Nat} {a : Option Addr} {l : List Ex} (hX : XAt w xb g xc a l) (q : ByteArray) (hq : q.size + 2 ≤ 1099511627776) (d : Ds) {i : Nat} {z : Ex} (hI : xIdx l q = some i) (hx : l[i]? = some z) (h0 : ¬ z.val.kind = 0) (hnd : Nums d) (hzn : z.val.num < 2 ^ 64) : Calls Tryz.prog 56 #[.pointer (some ⟨hb, 0, none⟩), .int .i64 1, .agg #[.string q, .int .i64 0], .agg (dArr d)] w fun e w' => DidB n0 w hb ov ob cap (fuel - 1 - 1 - 1) deep (kN xb) ext L e w' := by
  have hf1 : 0 < fuel ∧ fuel ≤ 9223372036854775807 := by omega
  have hd1 : 0 ≤ deep ∧ deep < 10 := by omega
  have cur := Bag.start s
  clear s
  go_enter Tryz.func56, Tryz.ntmps56
  go_wp2_with (first | ((with_reducible show wpList _ _ _ (⟨_, .box 25 _, _, _, _, _⟩ :: _) _ _); refine wpList_box1 rfl 25 _ rfl (.pointer (some ⟨hb, 0, none⟩)) rfl rfl ?_; intro wa hB hL hs; replace cur := cur.push hL hB (Nat.le_refl _) rfl; clear hB hL hs) | ((with_reducible show wpList _ _ _ (⟨_, .box 3 _, _, _, _, _⟩ :: _) _ _); refine wpList_box1 rfl 3 _ rfl (.int .i64 1) rfl rfl ?_; intro wb hB hL hs; replace cur := cur.push hL hB (Nat.le_refl _) rfl; clear hB hL hs) | ((with_reducible show wpList _ _ _ (⟨_, .box 40 (.tmp 2), _, _, _, _⟩ :: _) _ _); refine wpList_box_blk rfl 40 _ rfl (#[.string q, .int .i64 0]) rfl ?_; intro wc hB hL hs; replace cur := cur.push hL hB (Nat.le_refl _) rfl; clear hB hL hs) | ((with_reducible show wpList _ _ _ (⟨_, .box 43 _, _, _, _, _⟩ :: _) _ _); refine wpList_box_blk rfl 43 _ rfl (dArr d) rfl ?_; intro wd hB hL hs; replace cur := cur.push hL hB (Nat.le_refl _) rfl; clear hB hL hs) | ((with_reducible show wpList _ _ _ (⟨_, .load 25 (.tmp 4), _, _, _, _⟩ :: _) _ _); refine wpList_load1 (by rfl) 25 _ rfl _ 0 rfl (.pointer (some ⟨hb, 0, none⟩)) (Tryz.isAgg25 _) ((cur.blk 3 rfl).cell 0) ?_) | (go_at_call 106; refine (wbool_g cur.s hf1 hd1 107 _ (enters_of Tryz.func107 (by kernel_rfl) rfl) (fun x f e l _ => f = fuel - 1 - 1 - 1 ∧ e = ext ∧ l = L) (fun _ _ _ _ _ _ h _ => h) (fun W1 s1 k1 => xcdef_some (hX.keeps (cur.k.trans k1)) q hq d (by omega) (by omega) hI hx h0 hnd hzn (cur.go s1 k1).again)).mono ?_; rintro e wX ⟨x, tp', fl, ex, L2, rfl, s9, k9, rfl, rfl, rfl⟩; replace cur := cur.go s9 k9))
  go_ret2
  exact ⟨x, tp', rfl, cur.s, cur.k⟩

theorem xedef_thr {n0 : Nat} {w : World} {hb : Nat} {ov : Value} {ob : Nat} {tp : Option Addr} {cap fuel deep : Int} {xb : Nat} {ext : Bool} {L : List (Ky × Ds)} (s : StX n0 w hb ov ob tp cap fuel deep (kN xb) ext L) (hf : 2 < fuel ∧ fuel ≤ 9223372036854775807) (hd : 0 ≤ deep ∧ deep < 8) {g xc : Nat} {a : Option Addr} {l : List Ex} (hX : XAt w xb g xc a l) (q : ByteArray) (hq : q.size + 2 ≤ 1099511627776) (d : Ds) {i : Nat} {z : Ex} (hI : xIdx l q = some i) (hx : l[i]? = some z) (h0 : z.val.kind = 0) : Calls Tryz.prog 56 #[.pointer (some ⟨hb, 0, none⟩), .int .i64 1, .agg #[.string q, .int .i64 0], .agg (dArr d)] w fun e w' => DidTB n0 w hb ov ob cap (fuel - 1 - 1 - 1) deep (kN xb) ext L e w' := by
  have hf1 : 0 < fuel ∧ fuel ≤ 9223372036854775807 := by omega
  have hd1 : 0 ≤ deep ∧ deep < 10 := by omega
  have cur := Bag.start s
  clear s
  go_enter Tryz.func56, Tryz.ntmps56
  go_wp2_with (first | ((with_reducible show wpList _ _ _ (⟨_, .box 25 _, _, _, _, _⟩ :: _) _ _); refine wpList_box1 rfl 25 _ rfl (.pointer (some ⟨hb, 0, none⟩)) rfl rfl ?_; intro wa hB hL hs; replace cur := cur.push hL hB (Nat.le_refl _) rfl; clear hB hL hs) | ((with_reducible show wpList _ _ _ (⟨_, .box 3 _, _, _, _, _⟩ :: _) _ _); refine wpList_box1 rfl 3 _ rfl (.int .i64 1) rfl rfl ?_; intro wb hB hL hs; replace cur := cur.push hL hB (Nat.le_refl _) rfl; clear hB hL hs) | ((with_reducible show wpList _ _ _ (⟨_, .box 40 (.tmp 2), _, _, _, _⟩ :: _) _ _); refine wpList_box_blk rfl 40 _ rfl (#[.string q, .int .i64 0]) rfl ?_; intro wc hB hL hs; replace cur := cur.push hL hB (Nat.le_refl _) rfl; clear hB hL hs) | ((with_reducible show wpList _ _ _ (⟨_, .box 43 _, _, _, _, _⟩ :: _) _ _); refine wpList_box_blk rfl 43 _ rfl (dArr d) rfl ?_; intro wd hB hL hs; replace cur := cur.push hL hB (Nat.le_refl _) rfl; clear hB hL hs) | ((with_reducible show wpList _ _ _ (⟨_, .load 25 (.tmp 4), _, _, _, _⟩ :: _) _ _); refine wpList_load1 (by rfl) 25 _ rfl _ 0 rfl (.pointer (some ⟨hb, 0, none⟩)) (Tryz.isAgg25 _) ((cur.blk 3 rfl).cell 0) ?_) | (go_at_call 106; refine (wbool_t cur.s hf1 hd1 107 _ (enters_of Tryz.func107 (by kernel_rfl) rfl) (fun _ => True) thrArr (fun f e l => f = fuel - 1 - 1 - 1 ∧ e = ext ∧ l = L) (fun W1 s1 k1 => xcdef_thr (hX.keeps (cur.k.trans k1)) q hq d (by omega) (by omega) hI hx h0 (cur.go s1 k1).again)).mono ?_; rintro e wX ⟨x, bt, tp', fl, ex, L2, rfl, rfl, s9, k9, hnb, hbb, rfl, rfl, rfl⟩; unfold errT; replace cur := cur.go s9 k9))
  go_ret2
  exact ⟨bt, tp', rfl, hnb, hbb, cur.s, cur.k⟩

theorem xedef_sym {n0 : Nat} {w : World} {hb : Nat} {ov : Value} {ob : Nat} {tp : Option Addr} {cap fuel deep : Int} {xb : Nat} {ext : Bool} {L : List (Ky × Ds)} (s : StX n0 w hb ov ob tp cap fuel deep (kN xb) ext L) (hf : 2 < fuel ∧ fuel ≤ 9223372036854775807) (hd : 0 ≤ deep ∧ deep < 8) {g xc : Nat} {a : Option Addr} {l : List Ex} (hX : XAt w xb g xc a l) (k : Ky) (hk : ¬ k.sym = 0) (d : Ds) (hg : kgood k = true) (hlen : L.length < 1000000) (hnd : Nums d) (hkd : Dc.kindB uvalid d = true) (hn : LNums L) (hl : LOk L) : Calls Tryz.prog 56 #[.pointer (some ⟨hb, 0, none⟩), .int .i64 1, .agg (kArr k), .agg (dArr d)] w fun e w' => DidE (.tuple #[.bool (defB ext L k d), .nilIface]) n0 w hb ov ob cap (fuel - 1) deep (kN xb) ext (defL ext L k d) e w' := by
  have hf1 : 0 < fuel ∧ fuel ≤ 9223372036854775807 := by omega
  have hd1 : 0 ≤ deep ∧ deep < 10 := by omega
  have cur := Bag.start s
  clear s
  go_enter Tryz.func56, Tryz.ntmps56
  go_wp2_with (first | ((with_reducible show wpList _ _ _ (⟨_, .box 25 _, _, _, _, _⟩ :: _) _ _); refine wpList_box1 rfl 25 _ rfl (.pointer (some ⟨hb, 0, none⟩)) rfl rfl ?_; intro wa hB hL hs; replace cur := cur.push hL hB (Nat.le_refl _) rfl; clear hB hL hs) | ((with_reducible show wpList _ _ _ (⟨_, .box 3 _, _, _, _, _⟩ :: _) _ _); refine wpList_box1 rfl 3 _ rfl (.int .i64 1) rfl rfl ?_; intro wb hB hL hs; replace cur := cur.push hL hB (Nat.le_refl _) rfl; clear hB hL hs) | ((with_reducible show wpList _ _ _ (⟨_, .box 40 (.tmp 2), _, _, _, _⟩ :: _) _ _); refine wpList_box_blk rfl 40 _ rfl (kArr k) rfl ?_; intro wc hB hL hs; replace cur := cur.push hL hB (Nat.le_refl _) rfl; clear hB hL hs) | ((with_reducible show wpList _ _ _ (⟨_, .box 43 _, _, _, _, _⟩ :: _) _ _); refine wpList_box_blk rfl 43 _ rfl (dArr d) rfl ?_; intro wd hB hL hs; replace cur := cur.push hL hB (Nat.le_refl _) rfl; clear hB hL hs) | ((with_reducible show wpList _ _ _ (⟨_, .load 25 (.tmp 4), _, _, _, _⟩ :: _) _ _); refine wpList_load1 (by rfl) 25 _ rfl _ 0 rfl (.pointer (some ⟨hb, 0, none⟩)) (Tryz.isAgg25 _) ((cur.blk 3 rfl).cell 0) ?_) | (go_at_call 106; refine (wbool_g cur.s hf1 hd1 107 _ (enters_of Tryz.func107 (by kernel_rfl) rfl) (fun x f e l _ => x = defB ext L k d ∧ f = fuel - 1 ∧ e = ext ∧ l = defL ext L k d) (fun _ _ _ _ _ _ h _ => h) (fun W1 s1 k1 => xcdef_sym (hX.keeps (cur.k.trans k1)) k hk d hg hlen hnd hkd hn hl (cur.go s1 k1).again)).mono ?_; rintro e wX ⟨x, tp', fl, ex, L2, rfl, s9, k9, rfl, rfl, rfl, rfl⟩; replace cur := cur.go s9 k9))
  go_ret2
  exact ⟨tp', rfl, cur.s, cur.k⟩

theorem xeprev {n0 : Nat} {w : World} {hb : Nat} {ov : Value} {ob : Nat} {tp : Option Addr} {cap fuel deep : Int} {xb : Nat} {ext : Bool} {L : List (Ky × Ds)} (s : StX n0 w hb ov ob tp cap fuel deep (kN xb) ext L) (hf : 2 < fuel ∧ fuel ≤ 9223372036854775807) (hd : 0 ≤ deep ∧ deep < 8) {g xc : Nat} {a : Option Addr} {l : List Ex} (hX : XAt w xb g xc a l) : Calls Tryz.prog 61 #[.pointer (some ⟨hb, 0, none⟩), .int .i64 1] w fun e w' => DidE (.tuple #[.bool true, .nilIface]) n0 w hb ov ob cap (fuel - 1) deep (kN xb) false L e w' := by
  have hf1 : 0 < fuel ∧ fuel ≤ 9223372036854775807 := by omega
  have hd1 : 0 ≤ deep ∧ deep < 10 := by omega
  have cur := Bag.start s
  clear s
  go_enter Tryz.func61, Tryz.ntmps61
  go_wp2_with (first | ((with_reducible show wpList _ _ _ (⟨_, .box 25 _, _, _, _, _⟩ :: _) _ _); refine wpList_box1 rfl 25 _ rfl (.pointer (some ⟨hb, 0, none⟩)) rfl rfl ?_; intro wa hB hL hs; replace cur := cur.push hL hB (Nat.le_refl _) rfl; clear hB hL hs) | ((with_reducible show wpList _ _ _ (⟨_, .box 3 _, _, _, _, _⟩ :: _) _ _); refine wpList_box1 rfl 3 _ rfl (.int .i64 1) rfl rfl ?_; intro wb hB hL hs; replace cur := cur.push hL hB (Nat.le_refl _) rfl; clear hB hL hs) | ((with_reducible show wpList _ _ _ (⟨_, .load 25 (.tmp 2), _, _, _, _⟩ :: _) _ _); refine wpList_load1 (by rfl) 25 _ rfl _ 0 rfl (.pointer (some ⟨hb, 0, none⟩)) (Tryz.isAgg25 _) ((cur.blk 1 rfl).cell 0) ?_) | (go_at_call 106; refine (wbool_g cur.s hf1 hd1 111 _ (enters_of Tryz.func111 (by kernel_rfl) rfl) (fun x f e l _ => x = true ∧ f = fuel - 1 ∧ e = false ∧ l = L) (fun _ _ _ _ _ _ h _ => h) (fun W1 s1 k1 => xcprev (hX.keeps (cur.k.trans k1)) (cur.go s1 k1).again)).mono ?_; rintro e wX ⟨x, tp', fl, ex, L2, rfl, s9, k9, rfl, rfl, rfl, rfl⟩; replace cur := cur.go s9 k9))
  go_ret2
  exact ⟨tp', rfl, cur.s, cur.k⟩


end Go.Proofs.YtoalboilghgalaaGreatDoor

/- A namespace: EnterHasProperty and EnterDelete of a symbol. -/
namespace Go.Proofs.YtoalboilghgalaaGreatDoor
open Go.RowKit
open Go.Proofs.Dc (V Ds Ky)
attribute [local go_sem] run_store_float

theorem xchas_sym {n0 : Nat} {w : World} {hb : Nat} {ov : Value} {ob : Nat} {tp : Option Addr} {cap fuel deep : Int} {xb : Nat} {ext : Bool} {L : List (Ky × Ds)} {bh bi bk : Nat} {g xc : Nat} {a : Option Addr} {l : List Ex} (hX : XAt w xb g xc a l) (k : Ky) (hk : ¬ k.sym = 0) (hg : (getL L k).isSome = true) (cur : Bag n0 w w hb ov ob tp cap fuel deep (kN xb) ext L [(bk, kArr k, 40), (bi, #[.int .i64 1], 3), (bh, #[.pointer (some ⟨hb, 0, none⟩)], 25)]) : Calls Tryz.prog 134 #[.pointer (some ⟨bh, 0, none⟩), .pointer (some ⟨bi, 0, none⟩), .pointer (some ⟨bk, 0, none⟩)] w (GivesE (fun x => .bool x) (fun x f e l _ => x = true ∧ f = fuel ∧ e = ext ∧ l = L) n0 w hb ov ob cap deep (kN xb)) := by
  have hm := xmHasProperty xb
  have HG := Lib.hid hg
  clear hg
  have hmv : (kN xb).mv = .iface 157 (.pointer (some ⟨xb, 0, none⟩)) := rfl
  go_enter Tryz.func134, Tryz.ntmps134
  go_wp2_with fail
  refine Ord.region (fun W => Has W ([(bk, kArr k, 40), (bi, #[.int .i64 1], 3), (bh, #[.pointer (some ⟨hb, 0, none⟩)], 25)])) [7, 8, 9, 10] (by kernel_rfl) (cur.drew.has (by simp)) ?_
  intro hS
  replace cur := cur.drew
  refine Ord.tk 0 5 rfl rfl (yields_load1 (by rfl) 25 _ rfl bh 0 rfl (.pointer (some ⟨hb, 0, none⟩)) Tryz.isAgg25 (fun W hSW => (hSW.blk 2 rfl).cell 0)) ?_
  refine Ord.tk 1 6 rfl rfl (yields_load1 (by rfl) 3 _ rfl bi 0 rfl (.int .i64 1) Tryz.isAgg3 (fun W hSW => (hSW.blk 1 rfl).cell 0)) ?_
  refine Ord.tk 3 8 rfl rfl (yields_load1 (by rfl) 25 _ rfl bh 0 rfl (.pointer (some ⟨hb, 0, none⟩)) Tryz.isAgg25 (fun W hSW => (hSW.blk 2 rfl).cell 0)) ?_
  refine Ord.tk 4 9 rfl rfl (yields_load1 (by rfl) 3 _ rfl bi 0 rfl (.int .i64 1) Tryz.isAgg3 (fun W hSW => (hSW.blk 1 rfl).cell 0)) ?_
  refine Ord.tk 5 10 rfl rfl (yieldsIf_load_mid (by rfl) 40 _ rfl bk 0 rfl ([.string k.str, .int .i64 k.sym]) _ (fun W hSW => range_all (hSW.blk 0 rfl)) Tryz.underlying40 rfl Tryz.size40) ?_
  refine Ord.step (i := 2) rfl (by kernel_rfl) (by rfl) ?_
  intro K HK
  go_simp
  go_at_call 108
  refine (does_any cur.s).mono ?_
  rintro e wX ⟨rfl, rfl⟩
  refine HK.out _ _ ?_
  clear HK
  refine Ord.kp ?_ ?_
  · exact cur.has (by simp)
  clear hS
  intro hS
  try simp only [List.setIfInBounds_toArray, List.set_cons_zero, List.set_cons_succ]
  refine Ord.step (i := 6) rfl (by kernel_rfl) (by rfl) ?_
  intro K HK
  go_simp
  go_at_call 283
  refine (nhas_sym cur.s (hX.keeps cur.k) k hk HG.out).mono ?_
  rintro e wY ⟨tp2, rfl, s9, k9⟩
  replace cur := cur.go s9 k9
  clear s9 k9
  refine HK.out _ _ ?_
  clear HK
  refine ⟨Ord.np (by kernel_rfl), ?_⟩
  try simp only [List.setIfInBounds_toArray, List.set_cons_zero, List.set_cons_succ]
  refine Ord.tf 7 12 rfl rfl ?_
  refine Ord.tf 8 13 rfl rfl ?_
  refine Ord.tf 9 3 rfl rfl ?_
  refine Ord.tf 10 4 rfl rfl ?_
  refine Ord.done (by kernel_rfl) ?_ _
  clear hS
  go_wp2
  go_ret2
  exact ⟨_, tp2, fuel, ext, L, rfl, cur.s, cur.k, rfl, rfl, rfl, rfl⟩


theorem xcdel_symn {n0 : Nat} {w : World} {hb : Nat} {ov : Value} {ob : Nat} {tp : Option Addr} {cap fuel deep : Int} {xb : Nat} {ext : Bool} {L : List (Ky × Ds)} {bh bi bk : Nat} {g xc : Nat} {a : Option Addr} {l : List Ex} (hX : XAt w xb g xc a l) (k : Ky) (hk : ¬ k.sym = 0) (hg : (getL L k).isSome = false) (cur : Bag n0 w w hb ov ob tp cap fuel deep (kN xb) ext L [(bk, kArr k, 40), (bi, #[.int .i64 1], 3), (bh, #[.pointer (some ⟨hb, 0, none⟩)], 25)]) : Calls Tryz.prog 110 #[.pointer (some ⟨bh, 0, none⟩), .pointer (some ⟨bi, 0, none⟩), .pointer (some ⟨bk, 0, none⟩)] w (GivesE (fun x => .bool x) (fun x f e l _ => x = true ∧ f = fuel ∧ e = ext ∧ l = L) n0 w hb ov ob cap deep (kN xb)) := by
  have hm := xmDelete xb
  have HG := Lib.hid hg
  clear hg
  have hmv : (kN xb).mv = .iface 157 (.pointer (some ⟨xb, 0, none⟩)) := rfl
  go_enter Tryz.func110, Tryz.ntmps110
  go_wp2_with fail
  refine Ord.region (fun W => Has W ([(bk, kArr k, 40), (bi, #[.int .i64 1], 3), (bh, #[.pointer (some ⟨hb, 0, none⟩)], 25)])) [7, 8, 9, 10] (by kernel_rfl) (cur.drew.has (by simp)) ?_
  intro hS
  replace cur := cur.drew
  refine Ord.tk 0 5 rfl rfl (yields_load1 (by rfl) 25 _ rfl bh 0 rfl (.pointer (some ⟨hb, 0, none⟩)) Tryz.isAgg25 (fun W hSW => (hSW.blk 2 rfl).cell 0)) ?_
  refine Ord.tk 1 6 rfl rfl (yields_load1 (by rfl) 3 _ rfl bi 0 rfl (.int .i64 1) Tryz.isAgg3 (fun W hSW => (hSW.blk 1 rfl).cell 0)) ?_
  refine Ord.tk 3 8 rfl rfl (yields_load1 (by rfl) 25 _ rfl bh 0 rfl (.pointer (some ⟨hb, 0, none⟩)) Tryz.isAgg25 (fun W hSW => (hSW.blk 2 rfl).cell 0)) ?_
  refine Ord.tk 4 9 rfl rfl (yields_load1 (by rfl) 3 _ rfl bi 0 rfl (.int .i64 1) Tryz.isAgg3 (fun W hSW => (hSW.blk 1 rfl).cell 0)) ?_
  refine Ord.tk 5 10 rfl rfl (yieldsIf_load_mid (by rfl) 40 _ rfl bk 0 rfl ([.string k.str, .int .i64 k.sym]) _ (fun W hSW => range_all (hSW.blk 0 rfl)) Tryz.underlying40 rfl Tryz.size40) ?_
  refine Ord.step (i := 2) rfl (by kernel_rfl) (by rfl) ?_
  intro K HK
  go_simp
  go_at_call 108
  refine (does_any cur.s).mono ?_
  rintro e wX ⟨rfl, rfl⟩
  refine HK.out _ _ ?_
  clear HK
  refine Ord.kp ?_ ?_
  · exact cur.has (by simp)
  clear hS
  intro hS
  try simp only [List.setIfInBounds_toArray, List.set_cons_zero, List.set_cons_succ]
  refine Ord.step (i := 6) rfl (by kernel_rfl) (by rfl) ?_
  intro K HK
  go_simp
  go_at_call 280
  refine (ndel_symn cur.s (hX.keeps cur.k) k hk HG.out).mono ?_
  rintro e wY ⟨tp2, rfl, s9, k9⟩
  replace cur := cur.go s9 k9
  clear s9 k9
  refine HK.out _ _ ?_
  clear HK
  refine ⟨Ord.np (by kernel_rfl), ?_⟩
  try simp only [List.setIfInBounds_toArray, List.set_cons_zero, List.set_cons_succ]
  refine Ord.tf 7 12 rfl rfl ?_
  refine Ord.tf 8 13 rfl rfl ?_
  refine Ord.tf 9 3 rfl rfl ?_
  refine Ord.tf 10 4 rfl rfl ?_
  refine Ord.done (by kernel_rfl) ?_ _
  clear hS
  go_wp2
  go_ret2
  exact ⟨_, tp2, fuel, ext, L, rfl, cur.s, cur.k, rfl, rfl, rfl, rfl⟩


theorem xcdel_syms {n0 : Nat} {w : World} {hb : Nat} {ov : Value} {ob : Nat} {tp : Option Addr} {cap fuel deep : Int} {xb : Nat} {ext : Bool} {L : List (Ky × Ds)} {bh bi bk : Nat} {g xc : Nat} {a : Option Addr} {l : List Ex} (hX : XAt w xb g xc a l) (k : Ky) (hk : ¬ k.sym = 0) (hg : (getL L k).isSome = true ∧ ((getL L k).getD Dc.d0).c = 1) (cur : Bag n0 w w hb ov ob tp cap fuel deep (kN xb) ext L [(bk, kArr k, 40), (bi, #[.int .i64 1], 3), (bh, #[.pointer (some ⟨hb, 0, none⟩)], 25)]) : Calls Tryz.prog 110 #[.pointer (some ⟨bh, 0, none⟩), .pointer (some ⟨bi, 0, none⟩), .pointer (some ⟨bk, 0, none⟩)] w (GivesE (fun x => .bool x) (fun x f e l _ => x = false ∧ f = fuel ∧ e = ext ∧ l = L) n0 w hb ov ob cap deep (kN xb)) := by
  have hm := xmDelete xb
  have HG := Lib.hid hg
  clear hg
  have hmv : (kN xb).mv = .iface 157 (.pointer (some ⟨xb, 0, none⟩)) := rfl
  go_enter Tryz.func110, Tryz.ntmps110
  go_wp2_with fail
  refine Ord.region (fun W => Has W ([(bk, kArr k, 40), (bi, #[.int .i64 1], 3), (bh, #[.pointer (some ⟨hb, 0, none⟩)], 25)])) [7, 8, 9, 10] (by kernel_rfl) (cur.drew.has (by simp)) ?_
  intro hS
  replace cur := cur.drew
  refine Ord.tk 0 5 rfl rfl (yields_load1 (by rfl) 25 _ rfl bh 0 rfl (.pointer (some ⟨hb, 0, none⟩)) Tryz.isAgg25 (fun W hSW => (hSW.blk 2 rfl).cell 0)) ?_
  refine Ord.tk 1 6 rfl rfl (yields_load1 (by rfl) 3 _ rfl bi 0 rfl (.int .i64 1) Tryz.isAgg3 (fun W hSW => (hSW.blk 1 rfl).cell 0)) ?_
  refine Ord.tk 3 8 rfl rfl (yields_load1 (by rfl) 25 _ rfl bh 0 rfl (.pointer (some ⟨hb, 0, none⟩)) Tryz.isAgg25 (fun W hSW => (hSW.blk 2 rfl).cell 0)) ?_
  refine Ord.tk 4 9 rfl rfl (yields_load1 (by rfl) 3 _ rfl bi 0 rfl (.int .i64 1) Tryz.isAgg3 (fun W hSW => (hSW.blk 1 rfl).cell 0)) ?_
  refine Ord.tk 5 10 rfl rfl (yieldsIf_load_mid (by rfl) 40 _ rfl bk 0 rfl ([.string k.str, .int .i64 k.sym]) _ (fun W hSW => range_all (hSW.blk 0 rfl)) Tryz.underlying40 rfl Tryz.size40) ?_
  refine Ord.step (i := 2) rfl (by kernel_rfl) (by rfl) ?_
  intro K HK
  go_simp
  go_at_call 108
  refine (does_any cur.s).mono ?_
  rintro e wX ⟨rfl, rfl⟩
  refine HK.out _ _ ?_
  clear HK
  refine Ord.kp ?_ ?_
  · exact cur.has (by simp)
  clear hS
  intro hS
  try simp only [List.setIfInBounds_toArray, List.set_cons_zero, List.set_cons_succ]
  refine Ord.step (i := 6) rfl (by kernel_rfl) (by rfl) ?_
  intro K HK
  go_simp
  go_at_call 280
  refine (ndel_syms cur.s (hX.keeps cur.k) k hk HG.out).mono ?_
  rintro e wY ⟨tp2, rfl, s9, k9⟩
  replace cur := cur.go s9 k9
  clear s9 k9
  refine HK.out _ _ ?_
  clear HK
  refine ⟨Ord.np (by kernel_rfl), ?_⟩
  try simp only [List.setIfInBounds_toArray, List.set_cons_zero, List.set_cons_succ]
  refine Ord.tf 7 12 rfl rfl ?_
  refine Ord.tf 8 13 rfl rfl ?_
  refine Ord.tf 9 3 rfl rfl ?_
  refine Ord.tf 10 4 rfl rfl ?_
  refine Ord.done (by kernel_rfl) ?_ _
  clear hS
  go_wp2
  go_ret2
  exact ⟨_, tp2, fuel, ext, L, rfl, cur.s, cur.k, rfl, rfl, rfl, rfl⟩


theorem xehas_sym {n0 : Nat} {w : World} {hb : Nat} {ov : Value} {ob : Nat} {tp : Option Addr} {cap fuel deep : Int} {xb : Nat} {ext : Bool} {L : List (Ky × Ds)} (s : StX n0 w hb ov ob tp cap fuel deep (kN xb) ext L) (hf : 0 < fuel ∧ fuel ≤ 9223372036854775807) (hd : 0 ≤ deep ∧ deep < 10) {g xc : Nat} {a : Option Addr} {l : List Ex} (hX : XAt w xb g xc a l) (k : Ky) (hk : ¬ k.sym = 0) (hg : (getL L k).isSome = true) : Calls Tryz.prog 97 #[.pointer (some ⟨hb, 0, none⟩), .int .i64 1, .agg (kArr k)] w fun e w' => DidE (.tuple #[.bool true, .nilIface]) n0 w hb ov ob cap (fuel - 1) deep (kN xb) ext L e w' := by
  have HG := Lib.hid hg
  clear hg
  have cur := Bag.start s
  clear s
  go_enter Tryz.func97, Tryz.ntmps97
  go_wp2_with (first | ((with_reducible show wpList _ _ _ (⟨_, .box 25 _, _, _, _, _⟩ :: _) _ _); refine wpList_box1 rfl 25 _ rfl (.pointer (some ⟨hb, 0, none⟩)) rfl rfl ?_; intro wa hB hL hs; replace cur := cur.push hL hB (Nat.le_refl _) rfl; clear hB hL hs) | ((with_reducible show wpList _ _ _ (⟨_, .box 3 _, _, _, _, _⟩ :: _) _ _); refine wpList_box1 rfl 3 _ rfl (.int .i64 1) rfl rfl ?_; intro wb hB hL hs; replace cur := cur.push hL hB (Nat.le_refl _) rfl; clear hB hL hs) | ((with_reducible show wpList _ _ _ (⟨_, .box 40 (.tmp 2), _, _, _, _⟩ :: _) _ _); refine wpList_box_blk rfl 40 _ rfl (kArr k) rfl ?_; intro wc hB hL hs; replace cur := cur.push hL hB (Nat.le_refl _) rfl; clear hB hL hs) | ((with_reducible show wpList _ _ _ (⟨_, .load 25 (.tmp 3), _, _, _, _⟩ :: _) _ _); refine wpList_load1 (by rfl) 25 _ rfl _ 0 rfl (.pointer (some ⟨hb, 0, none⟩)) (Tryz.isAgg25 _) ((cur.blk 2 rfl).cell 0) ?_) | (go_at_call 106; refine (wbool_g cur.s hf hd 134 _ (enters_of Tryz.func134 (by kernel_rfl) rfl) (fun x f e l _ => x = true ∧ f = fuel - 1 ∧ e = ext ∧ l = L) (fun _ _ _ _ _ _ h _ => h) (fun W1 s1 k1 => xchas_sym (hX.keeps (cur.k.trans k1)) k hk HG.out (cur.go s1 k1).again)).mono ?_; rintro e wX ⟨x, tp', fl, ex, L2, rfl, s9, k9, rfl, rfl, rfl, rfl⟩; replace cur := cur.go s9 k9))
  go_ret2
  exact ⟨tp', rfl, cur.s, cur.k⟩

theorem xedel_symn {n0 : Nat} {w : World} {hb : Nat} {ov : Value} {ob : Nat} {tp : Option Addr} {cap fuel deep : Int} {xb : Nat} {ext : Bool} {L : List (Ky × Ds)} (s : StX n0 w hb ov ob tp cap fuel deep (kN xb) ext L) (hf : 0 < fuel ∧ fuel ≤ 9223372036854775807) (hd : 0 ≤ deep ∧ deep < 10) {g xc : Nat} {a : Option Addr} {l : List Ex} (hX : XAt w xb g xc a l) (k : Ky) (hk : ¬ k.sym = 0) (hg : (getL L k).isSome = false) : Calls Tryz.prog 60 #[.pointer (some ⟨hb, 0, none⟩), .int .i64 1, .agg (kArr k)] w fun e w' => DidE (.tuple #[.bool true, .nilIface]) n0 w hb ov ob cap (fuel - 1) deep (kN xb) ext L e w' := by
  have HG := Lib.hid hg
  clear hg
  have cur := Bag.start s
  clear s
  go_enter Tryz.func60, Tryz.ntmps60
  go_wp2_with (first | ((with_reducible show wpList _ _ _ (⟨_, .box 25 _, _, _, _, _⟩ :: _) _ _); refine wpList_box1 rfl 25 _ rfl (.pointer (some ⟨hb, 0, none⟩)) rfl rfl ?_; intro wa hB hL hs; replace cur := cur.push hL hB (Nat.le_refl _) rfl; clear hB hL hs) | ((with_reducible show wpList _ _ _ (⟨_, .box 3 _, _, _, _, _⟩ :: _) _ _); refine wpList_box1 rfl 3 _ rfl (.int .i64 1) rfl rfl ?_; intro wb hB hL hs; replace cur := cur.push hL hB (Nat.le_refl _) rfl; clear hB hL hs) | ((with_reducible show wpList _ _ _ (⟨_, .box 40 (.tmp 2), _, _, _, _⟩ :: _) _ _); refine wpList_box_blk rfl 40 _ rfl (kArr k) rfl ?_; intro wc hB hL hs; replace cur := cur.push hL hB (Nat.le_refl _) rfl; clear hB hL hs) | ((with_reducible show wpList _ _ _ (⟨_, .load 25 (.tmp 3), _, _, _, _⟩ :: _) _ _); refine wpList_load1 (by rfl) 25 _ rfl _ 0 rfl (.pointer (some ⟨hb, 0, none⟩)) (Tryz.isAgg25 _) ((cur.blk 2 rfl).cell 0) ?_) | (go_at_call 106; refine (wbool_g cur.s hf hd 110 _ (enters_of Tryz.func110 (by kernel_rfl) rfl) (fun x f e l _ => x = true ∧ f = fuel - 1 ∧ e = ext ∧ l = L) (fun _ _ _ _ _ _ h _ => h) (fun W1 s1 k1 => xcdel_symn (hX.keeps (cur.k.trans k1)) k hk HG.out (cur.go s1 k1).again)).mono ?_; rintro e wX ⟨x, tp', fl, ex, L2, rfl, s9, k9, rfl, rfl, rfl, rfl⟩; replace cur := cur.go s9 k9))
  go_ret2
  exact ⟨tp', rfl, cur.s, cur.k⟩

theorem xedel_syms {n0 : Nat} {w : World} {hb : Nat} {ov : Value} {ob : Nat} {tp : Option Addr} {cap fuel deep : Int} {xb : Nat} {ext : Bool} {L : List (Ky × Ds)} (s : StX n0 w hb ov ob tp cap fuel deep (kN xb) ext L) (hf : 0 < fuel ∧ fuel ≤ 9223372036854775807) (hd : 0 ≤ deep ∧ deep < 10) {g xc : Nat} {a : Option Addr} {l : List Ex} (hX : XAt w xb g xc a l) (k : Ky) (hk : ¬ k.sym = 0) (hg : (getL L k).isSome = true ∧ ((getL L k).getD Dc.d0).c = 1) : Calls Tryz.prog 60 #[.pointer (some ⟨hb, 0, none⟩), .int .i64 1, .agg (kArr k)] w fun e w' => DidE (.tuple #[.bool false, .nilIface]) n0 w hb ov ob cap (fuel - 1) deep (kN xb) ext L e w' := by
  have HG := Lib.hid hg
  clear hg
  have cur := Bag.start s
  clear s
  go_enter Tryz.func60, Tryz.ntmps60
  go_wp2_with (first | ((with_reducible show wpList _ _ _ (⟨_, .box 25 _, _, _, _, _⟩ :: _) _ _); refine wpList_box1 rfl 25 _ rfl (.pointer (some ⟨hb, 0, none⟩)) rfl rfl ?_; intro wa hB hL hs; replace cur := cur.push hL hB (Nat.le_refl _) rfl; clear hB hL hs) | ((with_reducible show wpList _ _ _ (⟨_, .box 3 _, _, _, _, _⟩ :: _) _ _); refine wpList_box1 rfl 3 _ rfl (.int .i64 1) rfl rfl ?_; intro wb hB hL hs; replace cur := cur.push hL hB (Nat.le_refl _) rfl; clear hB hL hs) | ((with_reducible show wpList _ _ _ (⟨_, .box 40 (.tmp 2), _, _, _, _⟩ :: _) _ _); refine wpList_box_blk rfl 40 _ rfl (kArr k) rfl ?_; intro wc hB hL hs; replace cur := cur.push hL hB (Nat.le_refl _) rfl; clear hB hL hs) | ((with_reducible show wpList _ _ _ (⟨_, .load 25 (.tmp 3), _, _, _, _⟩ :: _) _ _); refine wpList_load1 (by rfl) 25 _ rfl _ 0 rfl (.pointer (some ⟨hb, 0, none⟩)) (Tryz.isAgg25 _) ((cur.blk 2 rfl).cell 0) ?_) | (go_at_call 106; refine (wbool_g cur.s hf hd 110 _ (enters_of Tryz.func110 (by kernel_rfl) rfl) (fun x f e l _ => x = false ∧ f = fuel - 1 ∧ e = ext ∧ l = L) (fun _ _ _ _ _ _ h _ => h) (fun W1 s1 k1 => xcdel_syms (hX.keeps (cur.k.trans k1)) k hk HG.out (cur.go s1 k1).again)).mono ?_; rintro e wX ⟨x, tp', fl, ex, L2, rfl, s9, k9, rfl, rfl, rfl, rfl⟩; replace cur := cur.go s9 k9))
  go_ret2
  exact ⟨tp', rfl, cur.s, cur.k⟩


end Go.Proofs.YtoalboilghgalaaGreatDoor
