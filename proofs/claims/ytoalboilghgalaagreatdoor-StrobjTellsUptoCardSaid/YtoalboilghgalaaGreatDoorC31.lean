/- Lemmas for this claim, in parts: Sown, Sdef, Sclo1, Sent1, Sset. -/
import Derived.Test.YtoalboilghgalaaGreatDoorC24
import Derived.Test.YtoalboilghgalaaGreatDoorC29
import Derived.Test.YtoalboilghgalaaGreatDoorC30
import Derived.Test.YtoalboilghgalaaGreatDoorC01
import Derived.Test.YtoalboilghgalaaGreatDoorC19
import Derived.Test.YtoalboilghgalaaGreatDoorC10
set_option maxRecDepth 100000
set_option maxHeartbeats 4000000
set_option linter.unusedVariables false
set_option linter.unusedSimpArgs false
/- A String object's own: GetOwnProperty. -/
namespace Go.Proofs.YtoalboilghgalaaGreatDoor
open Go.RowKit
open Go.Proofs.Dc (V Ds Ky)
attribute [local go_sem] run_store_float

theorem unitD_none {U : List Int} {k : Ky} (h : unitI U.length k = none) : unitD U k = none := by unfold unitD; rw [h]
theorem unitI_lt {n i : Nat} {k : Ky} (h : unitI n k = some i) : i < n := by
  unfold unitI at h
  split at h
  · split at h
    · split at h
      · cases h; assumption
      · cases h
    · cases h
  · cases h
theorem unitD_some {U : List Int} {k : Ky} {i : Nat} (h : unitI U.length k = some i) : unitD U k = some (unitP (U[i]'(unitI_lt h))) := by
  unfold unitD; rw [h]
  simp only
  rw [List.getElem?_eq_getElem (unitI_lt h)]; rfl
theorem unit_any {w : World} {xb g cap : Nat} {s : ByteArray} {A : Option Addr} {U : List Int} (hT : Tabs w) (hS : SAt w xb s g cap A U) (k : Ky) : Calls Tryz.prog 218 #[.pointer (some ⟨xb, 0, none⟩), .agg (kArr k)] w fun e w' => e = .returned (.tuple #[.agg (dArr ((unitD U k).getD Dc.d0)), .bool (unitD U k).isSome]) ∧ Below w.heap.size w w' := by
  cases h : unitI U.length k with
  | none => rw [unitD_none h]; exact unit_none hT hS k h
  | some i => rw [unitD_some h]; exact unit_some hT hS k i h (unitI_lt h)
/-- a property of a String object -/
def ownS (L : List (Ky × Ds)) (U : List Int) (k : Ky) : Option Ds := match getL L k with
  | some d => some d
  | none => unitD U k
/-- a value, and the heap as it was -/
def rdS (L : List (Ky × Ds)) (U : List Int) (k : Ky) : Value := .tuple #[.agg (dArr ((ownS L U k).getD Dc.d0)), .bool (ownS L U k).isSome, .nilIface]

theorem sown_found {n0 : Nat} {w : World} {hb : Nat} {ov : Value} {ob : Nat} {tp : Option Addr} {cap fuel deep : Int} {kd : Kd} {ext : Bool} {L : List (Ky × Ds)} (s : StX n0 w hb ov ob tp cap fuel deep kd ext L) {xb g uc : Nat} {sb : ByteArray} {A : Option Addr} {U : List Int} (hS : SAt w xb sb g uc A U) (k : Ky) (d : Ds) (hg : getL L k = some d) : Calls Tryz.prog 210 #[.pointer (some ⟨xb, 0, none⟩), .pointer (some ⟨hb, 0, none⟩), .int .i64 1, .agg (kArr k)] w fun e w' => Rd (rdS L U k) n0 w hb ov ob tp cap fuel deep kd ext L e w' := by
  have hr : rdS L U k = .tuple #[.agg (dArr d), .bool true, .nilIface] := by unfold rdS ownS; rw [hg]; rfl
  rw [hr]
  have cL := fun W (s : StX n0 W hb ov ob tp cap fuel deep kd ext L) => lies_any s k
  simp only [hg, Option.getD_some, Option.isSome_some] at cL
  clear hS hr hg
  have cur := Bag.start s
  have hT := s.tabs
  clear s
  go_enter Tryz.func210, Tryz.ntmps210
  go_wp2_with (first | ((with_reducible show wpList _ _ _ (⟨_, .box 40 _, _, _, _, _⟩ :: _) _ _); refine wpList_box_blk rfl 40 _ rfl (kArr k) rfl ?_; intro wk hB hL hs; replace cur := cur.push hL hB (Nat.le_refl _) rfl; clear hB hL hs) | ((with_reducible show wpList _ _ _ (⟨some 8, .alloc 43, _, _, _, _⟩ :: _) _ _); refine wpList_alloc_blk rfl 43 rfl (dArr Dc.d0) zero43 ?_; intro wr hB hL hs; have hler := cur.k.size; replace cur := cur.push hL hB (Nat.le_refl _) rfl; clear hB hL hs) | ((with_reducible show wpList _ _ _ (⟨_, .load 40 (.tmp 7), _, _, _, _⟩ :: _) _ _); refine wpList_load_blk rfl 40 _ rfl _ rfl (cur.blk 1 rfl) Tryz.row40 Tryz.size40 ?_) | (go_at_call 227; refine (cL _ cur.s).mono ?_; rintro e wd ⟨rfl, hb'⟩; replace cur := cur.next hb'; clear hb'; have hle := cur.k.size) | ((with_reducible show wpList _ _ _ (⟨some 11, .alloc 43, _, _, _, _⟩ :: _) _ _); refine wpList_alloc_blk rfl 43 rfl (dArr Dc.d0) zero43 ?_; intro we hB hL hs; replace cur := cur.push hL hB (Nat.le_refl _) rfl; clear hB hL hs) | ((with_reducible show wpList _ _ _ (⟨_, .store 43 (.tmp 11) _, _, _, _, _⟩ :: _) _ _); refine wpList_store_blk rfl 43 _ _ rfl _ (dArr d) _ 43 rfl rfl (cur.blk 0 rfl) Tryz.size43 rfl (dCells_one _) ?_; intro wf hB hO; replace cur := cur.set 0 rfl hO hB hle; clear hB hO) | ((with_reducible show wpList _ _ _ (⟨_, .load 43 (.tmp 11), _, _, _, _⟩ :: _) _ _); refine wpList_load_blk rfl 43 _ rfl _ rfl (cur.blk 0 rfl) Tryz.row43 Tryz.size43 ?_) | ((with_reducible show wpList _ _ _ (⟨_, .store 43 (.tmp 8) _, _, _, _, _⟩ :: _) _ _); refine wpList_store_blk rfl 43 _ _ rfl _ (dArr d) _ 43 rfl rfl (cur.blk 1 rfl) Tryz.size43 rfl (dCells_one _) ?_; intro wg hB hO; replace cur := cur.set 1 rfl hO hB hler; clear hB hO))
  exact bodyPost_ret (results_cell_tmp2 Tryz.results210 rfl (cur.blk 1 rfl) Tryz.row43 Tryz.size43) rfl ⟨rfl, cur.s, cur.k⟩
theorem sown_unit {n0 : Nat} {w : World} {hb : Nat} {ov : Value} {ob : Nat} {tp : Option Addr} {cap fuel deep : Int} {kd : Kd} {ext : Bool} {L : List (Ky × Ds)} (s : StX n0 w hb ov ob tp cap fuel deep kd ext L) {xb g uc : Nat} {sb : ByteArray} {A : Option Addr} {U : List Int} (hS : SAt w xb sb g uc A U) (k : Ky) (hg : getL L k = none) : Calls Tryz.prog 210 #[.pointer (some ⟨xb, 0, none⟩), .pointer (some ⟨hb, 0, none⟩), .int .i64 1, .agg (kArr k)] w fun e w' => Rd (rdS L U k) n0 w hb ov ob tp cap fuel deep kd ext L e w' := by
  obtain ⟨d, hd⟩ : ∃ d, d = (unitD U k).getD Dc.d0 := ⟨_, rfl⟩
  obtain ⟨b, hb0⟩ : ∃ b, b = (unitD U k).isSome := ⟨_, rfl⟩
  have hr : rdS L U k = .tuple #[.agg (dArr d), .bool b, .nilIface] := by unfold rdS ownS; rw [hg, hd, hb0]
  rw [hr]
  have cL := fun W (s : StX n0 W hb ov ob tp cap fuel deep kd ext L) => lies_any s k
  simp only [hg, Option.getD_none, Option.isSome_none] at cL
  have cU : ∀ W, Tabs W → Keeps n0 w W → Calls Tryz.prog 218 #[.pointer (some ⟨xb, 0, none⟩), .agg (kArr k)] W fun e w' => e = .returned (.tuple #[.agg (dArr d), .bool b]) ∧ Below W.heap.size W w' := fun W h hk => by rw [hd, hb0]; exact unit_any h (hS.keeps hk) k
  clear hS hr hg hd hb0
  have cur := Bag.start s
  have hT := s.tabs
  clear s
  go_enter Tryz.func210, Tryz.ntmps210
  go_wp2_with (first | ((with_reducible show wpList _ _ _ (⟨_, .box 40 _, _, _, _, _⟩ :: _) _ _); refine wpList_box_blk rfl 40 _ rfl (kArr k) rfl ?_; intro wk hB hL hs; replace cur := cur.push hL hB (Nat.le_refl _) rfl; clear hB hL hs) | ((with_reducible show wpList _ _ _ (⟨some 8, .alloc 43, _, _, _, _⟩ :: _) _ _); refine wpList_alloc_blk rfl 43 rfl (dArr Dc.d0) zero43 ?_; intro wr hB hL hs; have hler := cur.k.size; replace cur := cur.push hL hB (Nat.le_refl _) rfl; clear hB hL hs) | ((with_reducible show wpList _ _ _ (⟨_, .load 40 (.tmp 7), _, _, _, _⟩ :: _) _ _); refine wpList_load_blk rfl 40 _ rfl _ rfl (cur.blk 1 rfl) Tryz.row40 Tryz.size40 ?_) | ((with_reducible show wpList _ _ _ (⟨_, .load 40 (.tmp 7), _, _, _, _⟩ :: _) _ _); refine wpList_load_blk rfl 40 _ rfl _ rfl (cur.blk 2 rfl) Tryz.row40 Tryz.size40 ?_) | (go_at_call 227; refine (cL _ cur.s).mono ?_; rintro e wd ⟨rfl, hb'⟩; replace cur := cur.next hb'; clear hb'; have hle := cur.k.size) | ((with_reducible show wpList _ _ _ (⟨some 11, .alloc 43, _, _, _, _⟩ :: _) _ _); refine wpList_alloc_blk rfl 43 rfl (dArr Dc.d0) zero43 ?_; intro we hB hL hs; replace cur := cur.push hL hB (Nat.le_refl _) rfl; clear hB hL hs) | ((with_reducible show wpList _ _ _ (⟨_, .store 43 (.tmp 11) _, _, _, _, _⟩ :: _) _ _); refine wpList_store_blk rfl 43 _ _ rfl _ (dArr Dc.d0) _ 43 rfl rfl (cur.blk 0 rfl) Tryz.size43 rfl (dCells_one _) ?_; intro wf hB hO; replace cur := cur.set 0 rfl hO hB hle; clear hB hO) | (go_at_call 218; refine (cU _ cur.s.tabs cur.k).mono ?_; rintro e wv ⟨rfl, hb'⟩; replace cur := cur.next hb'; clear hb') | ((with_reducible show wpList _ _ _ (⟨some 13, .alloc 43, _, _, _, _⟩ :: _) _ _); refine wpList_alloc_blk rfl 43 rfl (dArr Dc.d0) zero43 ?_; intro wu hB hL hs; have hle3 := cur.k.size; replace cur := cur.push hL hB (Nat.le_refl _) rfl; clear hB hL hs) | ((with_reducible show wpList _ _ _ (⟨_, .store 43 (.tmp 13) _, _, _, _, _⟩ :: _) _ _); refine wpList_store_blk rfl 43 _ _ rfl _ (dArr d) _ 43 rfl rfl (cur.blk 0 rfl) Tryz.size43 rfl (dCells_one _) ?_; intro wf2 hB hO; replace cur := cur.set 0 rfl hO hB hle3; clear hB hO) | ((with_reducible show wpList _ _ _ (⟨_, .load 43 (.tmp 13), _, _, _, _⟩ :: _) _ _); refine wpList_load_blk rfl 43 _ rfl _ rfl (cur.blk 0 rfl) Tryz.row43 Tryz.size43 ?_) | ((with_reducible show wpList _ _ _ (⟨_, .store 43 (.tmp 8) _, _, _, _, _⟩ :: _) _ _); refine wpList_store_blk rfl 43 _ _ rfl _ (dArr d) _ 43 rfl rfl (cur.blk 2 rfl) Tryz.size43 rfl (dCells_one _) ?_; intro wg hB hO; replace cur := cur.set 2 rfl hO hB hler; clear hB hO))
  exact bodyPost_ret (results_cell_tmp2 Tryz.results210 rfl (cur.blk 2 rfl) Tryz.row43 Tryz.size43) rfl ⟨rfl, cur.s, cur.k⟩
theorem sown_any {n0 : Nat} {w : World} {hb : Nat} {ov : Value} {ob : Nat} {tp : Option Addr} {cap fuel deep : Int} {kd : Kd} {ext : Bool} {L : List (Ky × Ds)} (s : StX n0 w hb ov ob tp cap fuel deep kd ext L) {xb g uc : Nat} {sb : ByteArray} {A : Option Addr} {U : List Int} (hS : SAt w xb sb g uc A U) (k : Ky) : Calls Tryz.prog 210 #[.pointer (some ⟨xb, 0, none⟩), .pointer (some ⟨hb, 0, none⟩), .int .i64 1, .agg (kArr k)] w fun e w' => Rd (rdS L U k) n0 w hb ov ob tp cap fuel deep kd ext L e w' := by
  cases hg : getL L k with
  | none => exact sown_unit s hS k hg
  | some d => exact sown_found s hS k d hg


end Go.Proofs.YtoalboilghgalaaGreatDoor

/- A String object's own: DefineOwnProperty. -/
namespace Go.Proofs.YtoalboilghgalaaGreatDoor
open Go.RowKit
open Go.Proofs.Dc (V Ds Ky)
attribute [local go_sem] run_store_float

theorem Tryz.size105 : (Tryz.prog.info? 105).map (·.size) = some 0 := by kernel_rfl
theorem unit_whole {x : Int} (h : IsU x) : Dc.Whole uvalid (unitP x) := by
  have h1 := unit_good h
  exact ⟨.inr rfl, .inl rfl, .inl ⟨h1, rfl, rfl, .inl rfl⟩⟩
theorem unit_nums (x : Int) : Nums (unitP x) := by
  exact ⟨show (0 : Nat) < 2 ^ 64 by decide, show (0 : Nat) < 2 ^ 64 by decide, show (0 : Nat) < 2 ^ 64 by decide⟩
theorem run_fa107 {W : World} {b : Nat} {C : Array Value} (h : Blk W b C 107) : (Instr.fieldAt 107 (.pointer (some ⟨b, 0, none⟩)) 0).run Tryz.prog W = .ok (.pointer (some ⟨b, 0, none⟩)) W := by
  unfold Instr.fieldAt
  simp only [Sem.run_bind, run_underlying Tryz.underlying107, Result.andThen_ok]
  simp [fieldPlace, run_part107 h, Instr.sureAddr]
theorem unitD_ok {W : World} {xb g cap : Nat} {s : ByteArray} {A : Option Addr} {U : List Int} (hS : SAt W xb s g cap A U) {k : Ky} {u : Ds} (h : unitD U k = some u) : Dc.Whole uvalid u ∧ Nums u := by
  unfold unitD at h
  split at h
  · rename_i i _
    cases hx : U[i]? with
    | none => rw [hx] at h; cases h
    | some x => rw [hx] at h; cases h; exact ⟨unit_whole (hS.units x (List.mem_of_getElem? hx)), unit_nums x⟩
  · cases h

theorem sdef_unit {n0 : Nat} {w : World} {hb : Nat} {ov : Value} {ob : Nat} {tp : Option Addr} {cap fuel deep : Int} {kd : Kd} {ext : Bool} {L : List (Ky × Ds)} (s : StX n0 w hb ov ob tp cap fuel deep kd ext L) {xb g uc : Nat} {sb : ByteArray} {A : Option Addr} {U : List Int} (hS : SAt w xb sb g uc A U) (k : Ky) (d : Ds) (hd : Nums d) (hkd : Dc.kindB uvalid d = true) (u : Ds) (hu : unitD U k = some u) : Calls Tryz.prog 207 #[.pointer (some ⟨xb, 0, none⟩), .pointer (some ⟨hb, 0, none⟩), .int .i64 1, .agg (kArr k), .agg (dArr d)] w fun e w' => DefPost n0 w hb ov ob cap fuel deep kd ext (Dc.apply uvalid ext u d).2 L e w' := by
  obtain ⟨hwu, hnu⟩ := unitD_ok hS hu
  have cA := fun W hT => apply_any ext u d W hT hnu hd hkd (.inr hwu)
  obtain ⟨bx, hbx⟩ : ∃ bx, bx = (Dc.apply uvalid ext u d).2 := ⟨_, rfl⟩
  obtain ⟨nx, hnx⟩ : ∃ nx, nx = (Dc.apply uvalid ext u d).1 := ⟨_, rfl⟩
  simp only [← hbx, ← hnx] at cA ⊢
  have cU : ∀ W, Tabs W → Keeps n0 w W → Calls Tryz.prog 218 #[.pointer (some ⟨xb, 0, none⟩), .agg (kArr k)] W fun e w' => e = .returned (.tuple #[.agg (dArr u), .bool true]) ∧ Below W.heap.size W w' := fun W h hk => by
    have h := unit_any h (hS.keeps hk) k
    rw [hu] at h; exact h
  have cur := Bag.start s
  clear s hS hu hbx hnx hwu hnu hd hkd
  go_enter Tryz.func207, Tryz.ntmps207
  go_wp2_with (first | ((with_reducible show wpList _ _ _ (⟨_, .box 40 _, _, _, _, _⟩ :: _) _ _); refine wpList_box_blk rfl 40 _ rfl (kArr k) rfl ?_; intro wb hB hL hs; replace cur := cur.push hL hB (Nat.le_refl _) rfl; clear hB hL hs) | ((with_reducible show wpList _ _ _ (⟨_, .box 43 _, _, _, _, _⟩ :: _) _ _); refine wpList_box_blk rfl 43 _ rfl (dArr d) rfl ?_; intro wc hB hL hs; replace cur := cur.push hL hB (Nat.le_refl _) rfl; clear hB hL hs) | ((with_reducible show wpList _ _ _ (⟨_, .load 40 (.tmp 8), _, _, _, _⟩ :: _) _ _); refine wpList_load_blk rfl 40 _ rfl _ rfl (cur.blk 1 rfl) Tryz.row40 Tryz.size40 ?_) | (go_at_call 218; refine (cU _ cur.s.tabs cur.k).mono ?_; rintro e wd ⟨rfl, hb'⟩; replace cur := cur.next hb'; clear hb'; have hle := cur.k.size) | ((with_reducible show wpList _ _ _ (⟨_, .alloc 43, _, _, _, _⟩ :: _) _ _); refine wpList_alloc_blk rfl 43 rfl (dArr Dc.d0) zero43 ?_; intro we hB hL hs; replace cur := cur.push hL hB (Nat.le_refl _) rfl; clear hB hL hs) | ((with_reducible show wpList _ _ _ (⟨_, .store 43 (.tmp 12) _, _, _, _, _⟩ :: _) _ _); refine wpList_store_blk rfl 43 _ _ rfl _ (dArr u) _ 43 rfl rfl (cur.blk 0 rfl) Tryz.size43 rfl (dCells_one _) ?_; intro wf hB hO; replace cur := cur.set 0 rfl hO hB hle; clear hB hO))
  refine Ord.region (fun W => Has W ([(wd.heap.size, dArr u, 43), (wb.heap.size, dArr d, 43)])) [8, 9, 12, 13] (by kernel_rfl) (cur.drew.has (by simp)) ?_
  intro hS
  replace cur := cur.drew
  refine Ord.tp 0 37 rfl rfl ?_
  refine Ord.tp 1 38 rfl rfl ?_
  refine Ord.tk 3 40 rfl rfl (yieldsIf_load_mid (by rfl) 43 _ rfl wd.heap.size 0 rfl ([.int .i64 u.val.kind, .bool u.val.bool, .float .f64 u.val.num, .string u.val.str, .int .i64 u.val.id, .int .i64 u.get.kind, .bool u.get.bool, .float .f64 u.get.num, .string u.get.str, .int .i64 u.get.id, .int .i64 u.set.kind, .bool u.set.bool, .float .f64 u.set.num, .string u.set.str, .int .i64 u.set.id, .int .i64 u.w, .int .i64 u.e, .int .i64 u.c]) _ (fun W hSW => range_all (hSW.blk 0 rfl)) Tryz.underlying43 rfl Tryz.size43) ?_
  refine Ord.tk 4 41 rfl rfl (yieldsIf_load_mid (by rfl) 43 _ rfl wb.heap.size 0 rfl ([.int .i64 d.val.kind, .bool d.val.bool, .float .f64 d.val.num, .string d.val.str, .int .i64 d.val.id, .int .i64 d.get.kind, .bool d.get.bool, .float .f64 d.get.num, .string d.get.str, .int .i64 d.get.id, .int .i64 d.set.kind, .bool d.set.bool, .float .f64 d.set.num, .string d.set.str, .int .i64 d.set.id, .int .i64 d.w, .int .i64 d.e, .int .i64 d.c]) _ (fun W hSW => range_all (hSW.blk 1 rfl)) Tryz.underlying43 rfl Tryz.size43) ?_
  refine Ord.two (i := 2) (j := 10) rfl rfl (by kernel_rfl) (by rfl) (by rfl) ?_ ?_
  · intro K HK
    go_simp
    go_at_call 221
    refine (open_any cur.s).mono ?_
    rintro e wX ⟨rfl, rfl⟩
    refine HK.out _ _ ?_
    clear HK
    refine Ord.kp ?_ ?_
    · exact cur.has (by simp)
    clear hS
    intro hS
    try simp only [List.setIfInBounds_toArray, List.set_cons_zero, List.set_cons_succ]
    refine Ord.two (i := 5) (j := 10) rfl rfl (by kernel_rfl) (by rfl) (by rfl) ?_ ?_
    · intro K HK
      go_simp
      go_at_call 220
      refine (cA _ cur.s.tabs).mono ?_
      rintro e wg ⟨rfl, hb'⟩
      replace cur := cur.next hb'
      clear hb'
      refine HK.out _ _ ?_
      clear HK
      refine Ord.kp ?_ ?_
      · exact cur.has (by simp)
      clear hS
      intro hS
      try simp only [List.setIfInBounds_toArray, List.set_cons_zero, List.set_cons_succ]
      refine Ord.tp 6 36 rfl rfl ?_
      refine Ord.tp 7 43 rfl rfl ?_
      refine Ord.tf 8 44 rfl rfl ?_
      refine Ord.tf 9 45 rfl rfl ?_
      refine Ord.step (i := 10) rfl (by kernel_rfl) (by rfl) ?_
      intro K HK
      refine alloc_op 43 rfl (dArr Dc.d0) zero43 ?_
      intro wh bA hBA hbe hLA
      have hgeA : w.heap.size ≤ bA := by have := cur.k.size; omega
      replace cur := cur.push hLA hBA (Nat.le_of_eq hbe.symm) rfl
      clear hbe hLA hBA
      refine HK.out _ _ ?_
      clear HK
      refine Ord.kp ?_ ?_
      · exact cur.has (by simp)
      clear hS
      intro hS
      try simp only [List.setIfInBounds_toArray, List.set_cons_zero, List.set_cons_succ]
      refine Ord.step (i := 11) rfl (by kernel_rfl) (by rfl) ?_
      intro K HK
      refine store_blk_op 43 (.tmp 14) (.tmp 43) rfl bA (dArr nx) (dArr Dc.d0) 43 rfl rfl (cur.blk 0 rfl) Tryz.size43 rfl (dCells_one _) ?_
      intro wi hBi hOi
      replace cur := cur.set 0 rfl hOi hBi hgeA
      clear hBi hOi
      refine HK.out _ _ ?_
      clear HK
      refine ⟨Ord.np (by kernel_rfl), ?_⟩
      try simp only [List.setIfInBounds_toArray, List.set_cons_zero, List.set_cons_succ]
      refine Ord.tf 12 15 rfl rfl ?_
      refine Ord.tf 13 16 rfl rfl ?_
      refine Ord.done (by kernel_rfl) ?_ _
      clear hS
      go_wp2
      go_ret2
      exact ⟨rfl, tp, cur.s, cur.k⟩
    · intro K HK
      refine alloc_op 43 rfl (dArr Dc.d0) zero43 ?_
      intro wh bA hBA hbe hLA
      have hgeA : w.heap.size ≤ bA := by have := cur.k.size; omega
      replace cur := cur.push hLA hBA (Nat.le_of_eq hbe.symm) rfl
      clear hbe hLA hBA
      refine HK.out _ _ ?_
      clear HK
      refine Ord.kp ?_ ?_
      · exact cur.has (by simp)
      clear hS
      intro hS
      try simp only [List.setIfInBounds_toArray, List.set_cons_zero, List.set_cons_succ]
      refine Ord.step (i := 5) rfl (by kernel_rfl) (by rfl) ?_
      intro K HK
      go_simp
      go_at_call 220
      refine (cA _ cur.s.tabs).mono ?_
      rintro e wg ⟨rfl, hb'⟩
      replace cur := cur.next hb'
      clear hb'
      refine HK.out _ _ ?_
      clear HK
      refine Ord.kp ?_ ?_
      · exact cur.has (by simp)
      clear hS
      intro hS
      try simp only [List.setIfInBounds_toArray, List.set_cons_zero, List.set_cons_succ]
      refine Ord.tp 6 36 rfl rfl ?_
      refine Ord.tp 7 43 rfl rfl ?_
      refine Ord.tf 8 44 rfl rfl ?_
      refine Ord.tf 9 45 rfl rfl ?_
      refine Ord.step (i := 11) rfl (by kernel_rfl) (by rfl) ?_
      intro K HK
      refine store_blk_op 43 (.tmp 14) (.tmp 43) rfl bA (dArr nx) (dArr Dc.d0) 43 rfl rfl (cur.blk 0 rfl) Tryz.size43 rfl (dCells_one _) ?_
      intro wi hBi hOi
      replace cur := cur.set 0 rfl hOi hBi hgeA
      clear hBi hOi
      refine HK.out _ _ ?_
      clear HK
      refine ⟨Ord.np (by kernel_rfl), ?_⟩
      try simp only [List.setIfInBounds_toArray, List.set_cons_zero, List.set_cons_succ]
      refine Ord.tf 12 15 rfl rfl ?_
      refine Ord.tf 13 16 rfl rfl ?_
      refine Ord.done (by kernel_rfl) ?_ _
      clear hS
      go_wp2
      go_ret2
      exact ⟨rfl, tp, cur.s, cur.k⟩
  · intro K HK
    refine alloc_op 43 rfl (dArr Dc.d0) zero43 ?_
    intro wh bA hBA hbe hLA
    have hgeA : w.heap.size ≤ bA := by have := cur.k.size; omega
    replace cur := cur.push hLA hBA (Nat.le_of_eq hbe.symm) rfl
    clear hbe hLA hBA
    refine HK.out _ _ ?_
    clear HK
    refine Ord.kp ?_ ?_
    · exact cur.has (by simp)
    clear hS
    intro hS
    try simp only [List.setIfInBounds_toArray, List.set_cons_zero, List.set_cons_succ]
    refine Ord.step (i := 2) rfl (by kernel_rfl) (by rfl) ?_
    intro K HK
    go_simp
    go_at_call 221
    refine (open_any cur.s).mono ?_
    rintro e wX ⟨rfl, rfl⟩
    refine HK.out _ _ ?_
    clear HK
    refine Ord.kp ?_ ?_
    · exact cur.has (by simp)
    clear hS
    intro hS
    try simp only [List.setIfInBounds_toArray, List.set_cons_zero, List.set_cons_succ]
    refine Ord.step (i := 5) rfl (by kernel_rfl) (by rfl) ?_
    intro K HK
    go_simp
    go_at_call 220
    refine (cA _ cur.s.tabs).mono ?_
    rintro e wg ⟨rfl, hb'⟩
    replace cur := cur.next hb'
    clear hb'
    refine HK.out _ _ ?_
    clear HK
    refine Ord.kp ?_ ?_
    · exact cur.has (by simp)
    clear hS
    intro hS
    try simp only [List.setIfInBounds_toArray, List.set_cons_zero, List.set_cons_succ]
    refine Ord.tp 6 36 rfl rfl ?_
    refine Ord.tp 7 43 rfl rfl ?_
    refine Ord.tf 8 44 rfl rfl ?_
    refine Ord.tf 9 45 rfl rfl ?_
    refine Ord.step (i := 11) rfl (by kernel_rfl) (by rfl) ?_
    intro K HK
    refine store_blk_op 43 (.tmp 14) (.tmp 43) rfl bA (dArr nx) (dArr Dc.d0) 43 rfl rfl (cur.blk 0 rfl) Tryz.size43 rfl (dCells_one _) ?_
    intro wi hBi hOi
    replace cur := cur.set 0 rfl hOi hBi hgeA
    clear hBi hOi
    refine HK.out _ _ ?_
    clear HK
    refine ⟨Ord.np (by kernel_rfl), ?_⟩
    try simp only [List.setIfInBounds_toArray, List.set_cons_zero, List.set_cons_succ]
    refine Ord.tf 12 15 rfl rfl ?_
    refine Ord.tf 13 16 rfl rfl ?_
    refine Ord.done (by kernel_rfl) ?_ _
    clear hS
    go_wp2
    go_ret2
    exact ⟨rfl, tp, cur.s, cur.k⟩

theorem sdef_none {n0 : Nat} {w : World} {hb : Nat} {ov : Value} {ob : Nat} {tp : Option Addr} {cap fuel deep : Int} {kd : Kd} {ext : Bool} {L : List (Ky × Ds)} (s : StX n0 w hb ov ob tp cap fuel deep kd ext L) {xb g uc : Nat} {sb : ByteArray} {A : Option Addr} {U : List Int} (hS : SAt w xb sb g uc A U) (k : Ky) (d : Ds) (hg : kgood k = true) (hlen : kd.b < 1000000) (hd : Nums d) (hkd : Dc.kindB uvalid d = true) (hn : LNums L) (hl : LOk L) (hu : unitD U k = none) : Calls Tryz.prog 207 #[.pointer (some ⟨xb, 0, none⟩), .pointer (some ⟨hb, 0, none⟩), .int .i64 1, .agg (kArr k), .agg (dArr d)] w fun e w' => DefPost n0 w hb ov ob cap fuel deep kd.up ext (defB ext L k d) (defL ext L k d) e w' := by
  have HD := Lib.hid (And.intro hg (And.intro hlen (And.intro hd (And.intro hkd (And.intro hn hl)))))
  have cU : ∀ W, Tabs W → Keeps n0 w W → Calls Tryz.prog 218 #[.pointer (some ⟨xb, 0, none⟩), .agg (kArr k)] W fun e w' => e = .returned (.tuple #[.agg (dArr Dc.d0), .bool false]) ∧ Below W.heap.size W w' := fun W h hk => by
    have h := unit_any h (hS.keeps hk) k
    rw [hu] at h; exact h
  have cur := (Bag.start s).have hS.blk rfl (by simp)
  clear s hS hu hd hkd hg hlen hn hl
  go_enter Tryz.func207, Tryz.ntmps207
  go_wp2_with (first | ((with_reducible show wpList _ _ _ (⟨_, .box 40 _, _, _, _, _⟩ :: _) _ _); refine wpList_box_blk rfl 40 _ rfl (kArr k) rfl ?_; intro wb hB hL hs; replace cur := cur.push hL hB (Nat.le_refl _) rfl; clear hB hL hs) | ((with_reducible show wpList _ _ _ (⟨_, .box 43 _, _, _, _, _⟩ :: _) _ _); refine wpList_box_blk rfl 43 _ rfl (dArr d) rfl ?_; intro wc hB hL hs; replace cur := cur.push hL hB (Nat.le_refl _) rfl; clear hB hL hs) | ((with_reducible show wpList _ _ _ (⟨_, .load 40 (.tmp 8), _, _, _, _⟩ :: _) _ _); refine wpList_load_blk rfl 40 _ rfl _ rfl (cur.blk 1 rfl) Tryz.row40 Tryz.size40 ?_) | (go_at_call 218; refine (cU _ cur.s.tabs cur.k).mono ?_; rintro e wd ⟨rfl, hb'⟩; replace cur := cur.next hb'; clear hb'; have hle := cur.k.size) | ((with_reducible show wpList _ _ _ (⟨_, .alloc 43, _, _, _, _⟩ :: _) _ _); refine wpList_alloc_blk rfl 43 rfl (dArr Dc.d0) zero43 ?_; intro we hB hL hs; replace cur := cur.push hL hB (Nat.le_refl _) rfl; clear hB hL hs) | ((with_reducible show wpList _ _ _ (⟨_, .store 43 (.tmp 12) _, _, _, _, _⟩ :: _) _ _); refine wpList_store_blk rfl 43 _ _ rfl _ (dArr Dc.d0) _ 43 rfl rfl (cur.blk 0 rfl) Tryz.size43 rfl (dCells_one _) ?_; intro wf hB hO; replace cur := cur.set 0 rfl hO hB hle; clear hB hO))
  refine Ord.region (fun W => Has W ([(wb.heap.size, dArr d, 43), (w.heap.size, kArr k, 40), (xb, #[.string sb, .slice A U.length uc], 107)])) [9, 10, 11, 12] (by kernel_rfl) (cur.drew.has (by simp)) ?_
  intro hS
  replace cur := cur.drew
  refine Ord.tp 0 25 rfl rfl ?_
  refine Ord.tp 1 26 rfl rfl ?_
  refine Ord.take (i := 2) (v := ?_) 27 rfl rfl (by kernel_rfl) (by kernel_rfl) (by kernel_rfl) (by kernel_rfl) (fun _ _ _ h => h) (by assumption) (Or.inl ⟨by rfl, ?_⟩) ?_
  rotate_left
  · (intro W hSW; first | (with_reducible rfl) | (have h1 := run_fa107 (hSW.blk 2 rfl); have h2 := run_part107 (hSW.blk 2 rfl); go_simp; done) | (have h1 := run_fa107 (hSW.blk 2 rfl); have h2 := run_part107 (hSW.blk 2 rfl); go_simp; with_reducible rfl))
  try simp only [List.setIfInBounds_toArray, List.set_cons_zero, List.set_cons_succ]
  refine Ord.tk 3 28 rfl rfl (yieldsIf_load_mid (by rfl) 105 _ rfl xb 0 rfl (([] : List Value)) _ (fun W hSW => (fun j v hv => by simp at hv)) Tryz.underlying105 rfl Tryz.size105) ?_
  refine Ord.tp 4 29 rfl rfl ?_
  refine Ord.tp 5 30 rfl rfl ?_
  refine Ord.tk 6 31 rfl rfl (yieldsIf_load_mid (by rfl) 40 _ rfl w.heap.size 0 rfl ([.string k.str, .int .i64 k.sym]) _ (fun W hSW => range_all (hSW.blk 1 rfl)) Tryz.underlying40 rfl Tryz.size40) ?_
  refine Ord.tk 7 32 rfl rfl (yieldsIf_load_mid (by rfl) 43 _ rfl wb.heap.size 0 rfl ([.int .i64 d.val.kind, .bool d.val.bool, .float .f64 d.val.num, .string d.val.str, .int .i64 d.val.id, .int .i64 d.get.kind, .bool d.get.bool, .float .f64 d.get.num, .string d.get.str, .int .i64 d.get.id, .int .i64 d.set.kind, .bool d.set.bool, .float .f64 d.set.num, .string d.set.str, .int .i64 d.set.id, .int .i64 d.w, .int .i64 d.e, .int .i64 d.c]) _ (fun W hSW => range_all (hSW.blk 0 rfl)) Tryz.underlying43 rfl Tryz.size43) ?_
  refine Ord.step (i := 8) rfl (by kernel_rfl) (by rfl) ?_
  intro K HK
  go_simp
  go_at_call 219
  refine (orddef_any cur.s k d HD.out.1 HD.out.2.1 HD.out.2.2.1 HD.out.2.2.2.1 HD.out.2.2.2.2.1 HD.out.2.2.2.2.2).mono ?_
  rintro e wY ⟨rfl, tp', s9, k9⟩
  replace cur := cur.go s9 k9
  refine HK.out _ _ ?_
  clear HK
  refine ⟨Ord.np (by kernel_rfl), ?_⟩
  try simp only [List.setIfInBounds_toArray, List.set_cons_zero, List.set_cons_succ]
  refine Ord.tf 9 34 rfl rfl ?_
  refine Ord.tf 10 35 rfl rfl ?_
  refine Ord.tf 11 10 rfl rfl ?_
  refine Ord.tf 12 11 rfl rfl ?_
  refine Ord.done (by kernel_rfl) ?_ _
  clear hS
  go_wp2
  go_ret2
  exact ⟨rfl, tp', cur.s, cur.k⟩


end Go.Proofs.YtoalboilghgalaaGreatDoor

/- The closures of the door, of a String object: define, get an own property, prevent. -/
namespace Go.Proofs.YtoalboilghgalaaGreatDoor
open Go.RowKit
open Go.Proofs.Dc (V Ds Ky)
attribute [local go_sem] run_store_float

theorem Bag.again {n0 : Nat} {w W : World} {hb : Nat} {ov : Value} {ob : Nat} {tp : Option Addr} {cap fuel deep : Int} {kd : Kd} {ext : Bool} {L : List (Ky × Ds)} {Bs : Bls} (h : Bag n0 w W hb ov ob tp cap fuel deep kd ext L Bs) : Bag n0 W W hb ov ob tp cap fuel deep kd ext L Bs := ⟨h.s, Keeps.refl _ _, h.bl, h.nd, h.s.sz⟩
theorem Bag.tail {n0 : Nat} {w W : World} {hb : Nat} {ov : Value} {ob : Nat} {tp : Option Addr} {cap fuel deep : Int} {kd : Kd} {ext : Bool} {L : List (Ky × Ds)} {x : Nat × Array Value × TypeId} {Bs : Bls} (h : Bag n0 w W hb ov ob tp cap fuel deep kd ext L (x :: Bs)) : Bag n0 w W hb ov ob tp cap fuel deep kd ext L Bs :=
  ⟨h.s, h.k, fun y hy => h.bl y (List.mem_cons_of_mem _ hy), (List.nodup_cons.1 h.nd).2, h.n⟩
/-- what define answers and leaves, of a String object -/
def defBS (ext : Bool) (L : List (Ky × Ds)) (U : List Int) (k : Ky) (d : Ds) : Bool := match unitD U k with
  | some u => (Dc.apply uvalid ext u d).2
  | none => defB ext L k d
def defLS (ext : Bool) (L : List (Ky × Ds)) (U : List Int) (k : Ky) (d : Ds) : List (Ky × Ds) := match unitD U k with
  | some _ => L
  | none => defL ext L k d
theorem DefPost.up {n0 : Nat} {w : World} {hb : Nat} {ov : Value} {ob : Nat} {cap fuel deep : Int} {kd : Kd} {ext b : Bool} {L : List (Ky × Ds)} {e : Ending} {w' : World} (hb1 : kd.b < 1000000) (h : DefPost n0 w hb ov ob cap fuel deep kd ext b L e w') : DefPost n0 w hb ov ob cap fuel deep kd.up ext b L e w' := by
  obtain ⟨h1, tp, h2, h3⟩ := h
  exact ⟨h1, tp, h2.up hb1, h3⟩
theorem sdef_any {n0 : Nat} {w : World} {hb : Nat} {ov : Value} {ob : Nat} {tp : Option Addr} {cap fuel deep : Int} {kd : Kd} {ext : Bool} {L : List (Ky × Ds)} (s : StX n0 w hb ov ob tp cap fuel deep kd ext L) {xb g uc : Nat} {sb : ByteArray} {A : Option Addr} {U : List Int} (hS : SAt w xb sb g uc A U) (k : Ky) (d : Ds) (hg : kgood k = true) (hlen : kd.b < 1000000) (hd : Nums d) (hkd : Dc.kindB uvalid d = true) (hn : LNums L) (hl : LOk L) : Calls Tryz.prog 207 #[.pointer (some ⟨xb, 0, none⟩), .pointer (some ⟨hb, 0, none⟩), .int .i64 1, .agg (kArr k), .agg (dArr d)] w fun e w' => DefPost n0 w hb ov ob cap fuel deep kd.up ext (defBS ext L U k d) (defLS ext L U k d) e w' := by
  unfold defBS defLS
  cases hu : unitD U k with
  | none => exact sdef_none s hS k d hg hlen hd hkd hn hl hu
  | some u => exact (sdef_unit s hS k d hd hkd u hu).mono fun e w' h => h.up hlen

theorem scdef {n0 : Nat} {w : World} {hb : Nat} {ov : Value} {ob : Nat} {tp : Option Addr} {cap fuel deep : Int} {kd : Kd} {ext : Bool} {L : List (Ky × Ds)} {xb g uc : Nat} {sb : ByteArray} {A : Option Addr} {U : List Int} (hQ : SAt w xb sb g uc A U) (hmv : kd.mv = .iface 103 (.pointer (some ⟨xb, 0, none⟩))) {bh bi bk bd : Nat} (k : Ky) (d : Ds) (hg : kgood k = true) (hlen : kd.b < 1000000) (hd : Nums d) (hkd : Dc.kindB uvalid d = true) (hn : LNums L) (hl : LOk L) (cur : Bag n0 w w hb ov ob tp cap fuel deep kd ext L [(bd, dArr d, 43), (bk, kArr k, 40), (bi, #[.int .i64 1], 3), (bh, #[.pointer (some ⟨hb, 0, none⟩)], 25)]) : Calls Tryz.prog 107 #[.pointer (some ⟨bh, 0, none⟩), .pointer (some ⟨bi, 0, none⟩), .pointer (some ⟨bk, 0, none⟩), .pointer (some ⟨bd, 0, none⟩)] w (Gives (fun x => .bool x) (fun x _ => x = defBS ext L U k d) n0 w hb ov ob cap fuel deep kd.up ext (defLS ext L U k d)) := by
  have hm := sDef xb
  go_enter Tryz.func107, Tryz.ntmps107
  go_wp2_with fail
  refine Ord.region (fun W => Has W ([(bd, dArr d, 43), (bk, kArr k, 40), (bi, #[.int .i64 1], 3), (bh, #[.pointer (some ⟨hb, 0, none⟩)], 25)])) [8, 9, 10, 11] (by kernel_rfl) (cur.drew.has (by simp)) ?_
  intro hS
  replace cur := cur.drew
  refine Ord.tk 0 6 rfl rfl (yields_load1 (by rfl) 25 _ rfl bh 0 rfl (.pointer (some ⟨hb, 0, none⟩)) Tryz.isAgg25 (fun W hSW => (hSW.blk 3 rfl).cell 0)) ?_
  refine Ord.tk 1 7 rfl rfl (yields_load1 (by rfl) 3 _ rfl bi 0 rfl (.int .i64 1) Tryz.isAgg3 (fun W hSW => (hSW.blk 2 rfl).cell 0)) ?_
  refine Ord.tk 3 9 rfl rfl (yields_load1 (by rfl) 25 _ rfl bh 0 rfl (.pointer (some ⟨hb, 0, none⟩)) Tryz.isAgg25 (fun W hSW => (hSW.blk 3 rfl).cell 0)) ?_
  refine Ord.tk 4 10 rfl rfl (yields_load1 (by rfl) 3 _ rfl bi 0 rfl (.int .i64 1) Tryz.isAgg3 (fun W hSW => (hSW.blk 2 rfl).cell 0)) ?_
  refine Ord.tk 5 11 rfl rfl (yieldsIf_load_mid (by rfl) 40 _ rfl bk 0 rfl ([.string k.str, .int .i64 k.sym]) _ (fun W hSW => range_all (hSW.blk 1 rfl)) Tryz.underlying40 rfl Tryz.size40) ?_
  refine Ord.tk 6 12 rfl rfl (yieldsIf_load_mid (by rfl) 43 _ rfl bd 0 rfl ([.int .i64 d.val.kind, .bool d.val.bool, .float .f64 d.val.num, .string d.val.str, .int .i64 d.val.id, .int .i64 d.get.kind, .bool d.get.bool, .float .f64 d.get.num, .string d.get.str, .int .i64 d.get.id, .int .i64 d.set.kind, .bool d.set.bool, .float .f64 d.set.num, .string d.set.str, .int .i64 d.set.id, .int .i64 d.w, .int .i64 d.e, .int .i64 d.c]) _ (fun W hSW => range_all (hSW.blk 0 rfl)) Tryz.underlying43 rfl Tryz.size43) ?_
  refine Ord.step (i := 2) rfl (by kernel_rfl) (by rfl) ?_
  intro K HK
  go_simp
  go_at_call 108
  refine (does_any cur.s).mono ?_
  rintro e wX ⟨rfl, rfl⟩
  refine HK.out _ _ ?_
  clear HK
  refine Ord.kp ?_ ?_
  · exact cur.has (by simp)
  clear hS
  intro hS
  try simp only [List.setIfInBounds_toArray, List.set_cons_zero, List.set_cons_succ]
  refine Ord.step (i := 7) rfl (by kernel_rfl) (by rfl) ?_
  intro K HK
  go_simp
  go_at_call 207
  refine (sdef_any cur.s (hQ.keeps cur.k) k d hg hlen hd hkd hn hl).mono ?_
  rintro e wY ⟨rfl, tp', s9, k9⟩
  replace cur := cur.go s9 k9
  refine HK.out _ _ ?_
  clear HK
  refine ⟨Ord.np (by kernel_rfl), ?_⟩
  try simp only [List.setIfInBounds_toArray, List.set_cons_zero, List.set_cons_succ]
  refine Ord.tf 8 14 rfl rfl ?_
  refine Ord.tf 9 15 rfl rfl ?_
  refine Ord.tf 10 4 rfl rfl ?_
  refine Ord.tf 11 5 rfl rfl ?_
  refine Ord.done (by kernel_rfl) ?_ _
  clear hS
  go_wp2
  go_ret2
  exact ⟨_, tp', rfl, cur.s, cur.k, rfl⟩


theorem scprev {n0 : Nat} {w : World} {hb : Nat} {ov : Value} {ob : Nat} {tp : Option Addr} {cap fuel deep : Int} {kd : Kd} {ext : Bool} {L : List (Ky × Ds)} {xb g uc : Nat} {sb : ByteArray} {A : Option Addr} {U : List Int} (hQ : SAt w xb sb g uc A U) (hmv : kd.mv = .iface 103 (.pointer (some ⟨xb, 0, none⟩))) {bh bi : Nat} (cur : Bag n0 w w hb ov ob tp cap fuel deep kd ext L [(bi, #[.int .i64 1], 3), (bh, #[.pointer (some ⟨hb, 0, none⟩)], 25)]) : Calls Tryz.prog 111 #[.pointer (some ⟨bh, 0, none⟩), .pointer (some ⟨bi, 0, none⟩)] w (Gives (fun x => .bool x) (fun x _ => x = true) n0 w hb ov ob cap fuel deep kd false L) := by
  go_enter Tryz.func111, Tryz.ntmps111
  go_wp2_with fail
  refine Ord.region (fun W => Has W ([(bi, #[.int .i64 1], 3), (bh, #[.pointer (some ⟨hb, 0, none⟩)], 25)])) [6, 7, 8, 9] (by kernel_rfl) (cur.drew.has (by simp)) ?_
  intro hS
  replace cur := cur.drew
  refine Ord.tk 0 4 rfl rfl (yields_load1 (by rfl) 25 _ rfl bh 0 rfl (.pointer (some ⟨hb, 0, none⟩)) Tryz.isAgg25 (fun W hSW => (hSW.blk 1 rfl).cell 0)) ?_
  refine Ord.tk 1 5 rfl rfl (yields_load1 (by rfl) 3 _ rfl bi 0 rfl (.int .i64 1) Tryz.isAgg3 (fun W hSW => (hSW.blk 0 rfl).cell 0)) ?_
  refine Ord.tk 3 7 rfl rfl (yields_load1 (by rfl) 25 _ rfl bh 0 rfl (.pointer (some ⟨hb, 0, none⟩)) Tryz.isAgg25 (fun W hSW => (hSW.blk 1 rfl).cell 0)) ?_
  refine Ord.tk 4 8 rfl rfl (yields_load1 (by rfl) 3 _ rfl bi 0 rfl (.int .i64 1) Tryz.isAgg3 (fun W hSW => (hSW.blk 0 rfl).cell 0)) ?_
  refine Ord.step (i := 2) rfl (by kernel_rfl) (by rfl) ?_
  intro K HK
  go_simp
  go_at_call 108
  refine (does_any cur.s).mono ?_
  rintro e wX ⟨rfl, rfl⟩
  refine HK.out _ _ ?_
  clear HK
  refine Ord.kp ?_ ?_
  · exact cur.has (by simp)
  clear hS
  intro hS
  try simp only [List.setIfInBounds_toArray, List.set_cons_zero, List.set_cons_succ]
  refine Ord.step (i := 5) rfl (by kernel_rfl) (by rfl) ?_
  intro K HK
  have hm := sPrev (hQ.keeps cur.k).blk
  go_simp
  go_at_call 215
  refine (ordprev_any cur.s).mono ?_
  rintro e wY ⟨rfl, s9, k9⟩
  replace cur := cur.go s9 k9
  refine HK.out _ _ ?_
  clear HK
  refine ⟨Ord.np (by kernel_rfl), ?_⟩
  try simp only [List.setIfInBounds_toArray, List.set_cons_zero, List.set_cons_succ]
  refine Ord.tf 6 10 rfl rfl ?_
  refine Ord.tf 7 11 rfl rfl ?_
  refine Ord.tf 8 2 rfl rfl ?_
  refine Ord.tf 9 3 rfl rfl ?_
  refine Ord.done (by kernel_rfl) ?_ _
  clear hS
  go_wp2
  go_ret2
  exact ⟨_, tp, rfl, cur.s, cur.k, rfl⟩


theorem scget {n0 : Nat} {w : World} {hb : Nat} {ov : Value} {ob : Nat} {tp : Option Addr} {cap fuel deep : Int} {kd : Kd} {ext : Bool} {L : List (Ky × Ds)} {xb g uc : Nat} {sb : ByteArray} {A : Option Addr} {U : List Int} (hQ : SAt w xb sb g uc A U) (hmv : kd.mv = .iface 103 (.pointer (some ⟨xb, 0, none⟩))) {bh bi bk : Nat} (k : Ky) (d : Ds) (b : Bool) (hdo : (ownS L U k).getD Dc.d0 = d) (hbo : (ownS L U k).isSome = b) (cur : Bag n0 w w hb ov ob tp cap fuel deep kd ext L [(bk, kArr k, 40), (bi, #[.int .i64 1], 3), (bh, #[.pointer (some ⟨hb, 0, none⟩)], 25)]) : Calls Tryz.prog 118 #[.pointer (some ⟨bh, 0, none⟩), .pointer (some ⟨bi, 0, none⟩), .pointer (some ⟨bk, 0, none⟩)] w (Gives (fun x => .agg (wArr x)) (fun x _ => x = (d, b)) n0 w hb ov ob cap fuel deep kd ext L) := by
  have hm := sGetOwn xb
  have cO : ∀ W, StX n0 W hb ov ob tp cap fuel deep kd ext L → Keeps n0 w W → Calls Tryz.prog 210 #[.pointer (some ⟨xb, 0, none⟩), .pointer (some ⟨hb, 0, none⟩), .int .i64 1, .agg (kArr k)] W fun e w' => Rd (.tuple #[.agg (dArr d), .bool b, .nilIface]) n0 W hb ov ob tp cap fuel deep kd ext L e w' := fun W s hk => by
    have h := sown_any s (hQ.keeps hk) k
    unfold rdS at h
    rw [hdo, hbo] at h
    exact h
  clear hdo hbo
  go_enter Tryz.func118, Tryz.ntmps118
  go_wp2_with ((with_reducible show wpList _ _ _ (⟨_, .alloc 192, _, _, _, _⟩ :: _) _ _); refine wpList_alloc_blk rfl 192 rfl (wArr (Dc.d0, false)) zero192 ?_; intro wa hB hL hs; replace cur := cur.push hL hB (Nat.le_refl _) rfl; clear hB hL hs)
  refine Ord.region (fun W => Has W ([(bk, kArr k, 40), (bi, #[.int .i64 1], 3), (bh, #[.pointer (some ⟨hb, 0, none⟩)], 25)])) [9, 10, 13, 14] (by kernel_rfl) (cur.drew.has (by simp)) ?_
  intro hS
  replace cur := cur.drew
  refine Ord.tk 0 9 rfl rfl (yields_load1 (by rfl) 25 _ rfl bh 0 rfl (.pointer (some ⟨hb, 0, none⟩)) Tryz.isAgg25 (fun W hSW => (hSW.blk 2 rfl).cell 0)) ?_
  refine Ord.tk 1 10 rfl rfl (yields_load1 (by rfl) 3 _ rfl bi 0 rfl (.int .i64 1) Tryz.isAgg3 (fun W hSW => (hSW.blk 1 rfl).cell 0)) ?_
  refine Ord.tk 3 12 rfl rfl (yields_load1 (by rfl) 25 _ rfl bh 0 rfl (.pointer (some ⟨hb, 0, none⟩)) Tryz.isAgg25 (fun W hSW => (hSW.blk 2 rfl).cell 0)) ?_
  refine Ord.tk 4 13 rfl rfl (yields_load1 (by rfl) 3 _ rfl bi 0 rfl (.int .i64 1) Tryz.isAgg3 (fun W hSW => (hSW.blk 1 rfl).cell 0)) ?_
  refine Ord.tk 5 14 rfl rfl (yieldsIf_load_mid (by rfl) 40 _ rfl bk 0 rfl ([.string k.str, .int .i64 k.sym]) _ (fun W hSW => range_all (hSW.blk 0 rfl)) Tryz.underlying40 rfl Tryz.size40) ?_
  refine Ord.two (i := 2) (j := 11) rfl rfl (by kernel_rfl) (by rfl) (by rfl) ?_ ?_
  · intro K HK
    go_simp
    go_at_call 108
    refine (does_any cur.s).mono ?_
    rintro e wX ⟨rfl, rfl⟩
    refine HK.out _ _ ?_
    clear HK
    refine Ord.kp ?_ ?_
    · exact cur.has (by simp)
    clear hS
    intro hS
    try simp only [List.setIfInBounds_toArray, List.set_cons_zero, List.set_cons_succ]
    refine Ord.two (i := 6) (j := 11) rfl rfl (by kernel_rfl) (by rfl) (by rfl) ?_ ?_
    · intro K HK
      go_simp
      go_at_call 210
      refine (cO _ cur.s cur.k).mono ?_
      rintro e wY ⟨rfl, s9, k9⟩
      replace cur := cur.go s9 k9
      refine HK.out _ _ ?_
      clear HK
      refine Ord.kp ?_ ?_
      · exact cur.has (by simp)
      clear hS
      intro hS
      try simp only [List.setIfInBounds_toArray, List.set_cons_zero, List.set_cons_succ]
      refine Ord.tp 7 8 rfl rfl ?_
      refine Ord.tp 8 16 rfl rfl ?_
      refine Ord.tf 9 17 rfl rfl ?_
      refine Ord.tf 10 18 rfl rfl ?_
      refine Ord.step (i := 11) rfl (by kernel_rfl) (by rfl) ?_
      intro K HK
      refine alloc_op 43 rfl (dArr Dc.d0) zero43 ?_
      intro wh bA hBA hbe hLA
      have hgeA : w.heap.size ≤ bA := by have := cur.k.size; omega
      replace cur := cur.push hLA hBA (Nat.le_of_eq hbe.symm) rfl
      clear hbe hLA hBA
      refine HK.out _ _ ?_
      clear HK
      refine Ord.kp ?_ ?_
      · exact cur.has (by simp)
      clear hS
      intro hS
      try simp only [List.setIfInBounds_toArray, List.set_cons_zero, List.set_cons_succ]
      refine Ord.step (i := 12) rfl (by kernel_rfl) (by rfl) ?_
      intro K HK
      refine store_blk_op 43 (.tmp 5) (.tmp 16) rfl bA (dArr d) (dArr Dc.d0) 43 rfl rfl (cur.blk 0 rfl) Tryz.size43 rfl (dCells_one _) ?_
      intro wi hBi hOi
      replace cur := cur.set 0 rfl hOi hBi hgeA
      clear hBi hOi
      refine HK.out _ _ ?_
      clear HK
      refine ⟨Ord.np (by kernel_rfl), ?_⟩
      try simp only [List.setIfInBounds_toArray, List.set_cons_zero, List.set_cons_succ]
      refine Ord.tf 13 6 rfl rfl ?_
      refine Ord.tf 14 7 rfl rfl ?_
      refine Ord.done (by kernel_rfl) ?_ _
      clear hS
      go_wp2_with (first | ((with_reducible show wpList _ _ _ (⟨_, .load 43 (.tmp 5), _, _, _, _⟩ :: _) _ _); refine wpList_load_blk rfl 43 _ rfl _ rfl (show Blk _ _ (#[.int .i64 d.val.kind, .bool d.val.bool, .float .f64 d.val.num, .string d.val.str, .int .i64 d.val.id, .int .i64 d.get.kind, .bool d.get.bool, .float .f64 d.get.num, .string d.get.str, .int .i64 d.get.id, .int .i64 d.set.kind, .bool d.set.bool, .float .f64 d.set.num, .string d.set.str, .int .i64 d.set.id, .int .i64 d.w, .int .i64 d.e, .int .i64 d.c]) 43 from cur.blk 0 rfl) Tryz.row43 Tryz.size43 ?_) | ((with_reducible show wpList _ _ _ (⟨_, .store 192 (.tmp 3) _, _, _, _, _⟩ :: _) _ _); refine wpList_store_blk rfl 192 _ _ rfl _ (wArr (d, b)) _ 192 rfl rfl (cur.blk 1 rfl) Tryz.size192 rfl (wCells_one _) ?_; intro wq hB hO; replace cur := cur.set 1 rfl hO hB (Nat.le_refl _); clear hB hO))
      exact bodyPost_ret (results_cell_tmp Tryz.results118 rfl (cur.blk 1 rfl) Tryz.row192 Tryz.size192) rfl ⟨_, tp, rfl, cur.s, cur.k, rfl⟩
    · intro K HK
      refine alloc_op 43 rfl (dArr Dc.d0) zero43 ?_
      intro wh bA hBA hbe hLA
      have hgeA : w.heap.size ≤ bA := by have := cur.k.size; omega
      replace cur := cur.push hLA hBA (Nat.le_of_eq hbe.symm) rfl
      clear hbe hLA hBA
      refine HK.out _ _ ?_
      clear HK
      refine Ord.kp ?_ ?_
      · exact cur.has (by simp)
      clear hS
      intro hS
      try simp only [List.setIfInBounds_toArray, List.set_cons_zero, List.set_cons_succ]
      refine Ord.step (i := 6) rfl (by kernel_rfl) (by rfl) ?_
      intro K HK
      go_simp
      go_at_call 210
      refine (cO _ cur.s cur.k).mono ?_
      rintro e wY ⟨rfl, s9, k9⟩
      replace cur := cur.go s9 k9
      refine HK.out _ _ ?_
      clear HK
      refine Ord.kp ?_ ?_
      · exact cur.has (by simp)
      clear hS
      intro hS
      try simp only [List.setIfInBounds_toArray, List.set_cons_zero, List.set_cons_succ]
      refine Ord.tp 7 8 rfl rfl ?_
      refine Ord.tp 8 16 rfl rfl ?_
      refine Ord.tf 9 17 rfl rfl ?_
      refine Ord.tf 10 18 rfl rfl ?_
      refine Ord.step (i := 12) rfl (by kernel_rfl) (by rfl) ?_
      intro K HK
      refine store_blk_op 43 (.tmp 5) (.tmp 16) rfl bA (dArr d) (dArr Dc.d0) 43 rfl rfl (cur.blk 0 rfl) Tryz.size43 rfl (dCells_one _) ?_
      intro wi hBi hOi
      replace cur := cur.set 0 rfl hOi hBi hgeA
      clear hBi hOi
      refine HK.out _ _ ?_
      clear HK
      refine ⟨Ord.np (by kernel_rfl), ?_⟩
      try simp only [List.setIfInBounds_toArray, List.set_cons_zero, List.set_cons_succ]
      refine Ord.tf 13 6 rfl rfl ?_
      refine Ord.tf 14 7 rfl rfl ?_
      refine Ord.done (by kernel_rfl) ?_ _
      clear hS
      go_wp2_with (first | ((with_reducible show wpList _ _ _ (⟨_, .load 43 (.tmp 5), _, _, _, _⟩ :: _) _ _); refine wpList_load_blk rfl 43 _ rfl _ rfl (show Blk _ _ (#[.int .i64 d.val.kind, .bool d.val.bool, .float .f64 d.val.num, .string d.val.str, .int .i64 d.val.id, .int .i64 d.get.kind, .bool d.get.bool, .float .f64 d.get.num, .string d.get.str, .int .i64 d.get.id, .int .i64 d.set.kind, .bool d.set.bool, .float .f64 d.set.num, .string d.set.str, .int .i64 d.set.id, .int .i64 d.w, .int .i64 d.e, .int .i64 d.c]) 43 from cur.blk 0 rfl) Tryz.row43 Tryz.size43 ?_) | ((with_reducible show wpList _ _ _ (⟨_, .store 192 (.tmp 3) _, _, _, _, _⟩ :: _) _ _); refine wpList_store_blk rfl 192 _ _ rfl _ (wArr (d, b)) _ 192 rfl rfl (cur.blk 1 rfl) Tryz.size192 rfl (wCells_one _) ?_; intro wq hB hO; replace cur := cur.set 1 rfl hO hB (Nat.le_refl _); clear hB hO))
      exact bodyPost_ret (results_cell_tmp Tryz.results118 rfl (cur.blk 1 rfl) Tryz.row192 Tryz.size192) rfl ⟨_, tp, rfl, cur.s, cur.k, rfl⟩
  · intro K HK
    refine alloc_op 43 rfl (dArr Dc.d0) zero43 ?_
    intro wh bA hBA hbe hLA
    have hgeA : w.heap.size ≤ bA := by have := cur.k.size; omega
    replace cur := cur.push hLA hBA (Nat.le_of_eq hbe.symm) rfl
    clear hbe hLA hBA
    refine HK.out _ _ ?_
    clear HK
    refine Ord.kp ?_ ?_
    · exact cur.has (by simp)
    clear hS
    intro hS
    try simp only [List.setIfInBounds_toArray, List.set_cons_zero, List.set_cons_succ]
    refine Ord.step (i := 2) rfl (by kernel_rfl) (by rfl) ?_
    intro K HK
    go_simp
    go_at_call 108
    refine (does_any cur.s).mono ?_
    rintro e wX ⟨rfl, rfl⟩
    refine HK.out _ _ ?_
    clear HK
    refine Ord.kp ?_ ?_
    · exact cur.has (by simp)
    clear hS
    intro hS
    try simp only [List.setIfInBounds_toArray, List.set_cons_zero, List.set_cons_succ]
    refine Ord.step (i := 6) rfl (by kernel_rfl) (by rfl) ?_
    intro K HK
    go_simp
    go_at_call 210
    refine (cO _ cur.s cur.k).mono ?_
    rintro e wY ⟨rfl, s9, k9⟩
    replace cur := cur.go s9 k9
    refine HK.out _ _ ?_
    clear HK
    refine Ord.kp ?_ ?_
    · exact cur.has (by simp)
    clear hS
    intro hS
    try simp only [List.setIfInBounds_toArray, List.set_cons_zero, List.set_cons_succ]
    refine Ord.tp 7 8 rfl rfl ?_
    refine Ord.tp 8 16 rfl rfl ?_
    refine Ord.tf 9 17 rfl rfl ?_
    refine Ord.tf 10 18 rfl rfl ?_
    refine Ord.step (i := 12) rfl (by kernel_rfl) (by rfl) ?_
    intro K HK
    refine store_blk_op 43 (.tmp 5) (.tmp 16) rfl bA (dArr d) (dArr Dc.d0) 43 rfl rfl (cur.blk 0 rfl) Tryz.size43 rfl (dCells_one _) ?_
    intro wi hBi hOi
    replace cur := cur.set 0 rfl hOi hBi hgeA
    clear hBi hOi
    refine HK.out _ _ ?_
    clear HK
    refine ⟨Ord.np (by kernel_rfl), ?_⟩
    try simp only [List.setIfInBounds_toArray, List.set_cons_zero, List.set_cons_succ]
    refine Ord.tf 13 6 rfl rfl ?_
    refine Ord.tf 14 7 rfl rfl ?_
    refine Ord.done (by kernel_rfl) ?_ _
    clear hS
    go_wp2_with (first | ((with_reducible show wpList _ _ _ (⟨_, .load 43 (.tmp 5), _, _, _, _⟩ :: _) _ _); refine wpList_load_blk rfl 43 _ rfl _ rfl (show Blk _ _ (#[.int .i64 d.val.kind, .bool d.val.bool, .float .f64 d.val.num, .string d.val.str, .int .i64 d.val.id, .int .i64 d.get.kind, .bool d.get.bool, .float .f64 d.get.num, .string d.get.str, .int .i64 d.get.id, .int .i64 d.set.kind, .bool d.set.bool, .float .f64 d.set.num, .string d.set.str, .int .i64 d.set.id, .int .i64 d.w, .int .i64 d.e, .int .i64 d.c]) 43 from cur.blk 0 rfl) Tryz.row43 Tryz.size43 ?_) | ((with_reducible show wpList _ _ _ (⟨_, .store 192 (.tmp 3) _, _, _, _, _⟩ :: _) _ _); refine wpList_store_blk rfl 192 _ _ rfl _ (wArr (d, b)) _ 192 rfl rfl (cur.blk 1 rfl) Tryz.size192 rfl (wCells_one _) ?_; intro wq hB hO; replace cur := cur.set 1 rfl hO hB (Nat.le_refl _); clear hB hO))
    exact bodyPost_ret (results_cell_tmp Tryz.results118 rfl (cur.blk 1 rfl) Tryz.row192 Tryz.size192) rfl ⟨_, tp, rfl, cur.s, cur.k, rfl⟩



end Go.Proofs.YtoalboilghgalaaGreatDoor

/- Enter.., of a String object: EnterDefineOwnProperty, EnterGetOwnProperty, EnterPreventExtensions. -/
namespace Go.Proofs.YtoalboilghgalaaGreatDoor
open Go.RowKit
open Go.Proofs.Dc (V Ds Ky)
attribute [local go_sem] run_store_float

/-- a value, and the heap as it is said to be -/
def DidS (v : Value) (n0 : Nat) (w : World) (hb : Nat) (ov : Value) (ob : Nat) (cap fuel deep : Int) (kd : Kd) (ext : Bool) (L : List (Ky × Ds)) (e : Ending) (w' : World) : Prop :=
  ∃ tp, e = .returned v ∧ StX n0 w' hb ov ob tp cap fuel deep kd ext L ∧ Keeps n0 w w'
theorem range_own {W : World} {b : Nat} {p : Ds × Bool} (h : Blk W b (wArr p) 192) : W.rangeAt b 0 (dArr p.1).toList := fun j v hv => by
  rw [h.cell, Nat.zero_add]
  have hj : j < 18 := (List.getElem?_eq_some_iff.1 hv).1
  have e : (wArr p).toList = (dArr p.1).toList ++ [.bool p.2] := rfl
  have : (wArr p)[j]? = (wArr p).toList[j]? := by simp
  rw [this, e, List.getElem?_append_left hj]
  exact hv

theorem seprev {n0 : Nat} {w : World} {hb : Nat} {ov : Value} {ob : Nat} {tp : Option Addr} {cap fuel deep : Int} {kd : Kd} {ext : Bool} {L : List (Ky × Ds)} (s : StX n0 w hb ov ob tp cap fuel deep kd ext L) {xb g uc : Nat} {sb : ByteArray} {A : Option Addr} {U : List Int} (hQ : SAt w xb sb g uc A U) (hmv : kd.mv = .iface 103 (.pointer (some ⟨xb, 0, none⟩))) (hf : Can fuel deep kd) : Calls Tryz.prog 61 #[.pointer (some ⟨hb, 0, none⟩), .int .i64 1] w (DidS (.tuple #[.bool true, .nilIface]) n0 w hb ov ob cap (fuel - 1) deep kd false L) := by
  have cur := Bag.start s
  clear s
  go_enter Tryz.func61, Tryz.ntmps61
  go_wp2_with (first | ((with_reducible show wpList _ _ _ (⟨_, .box 25 _, _, _, _, _⟩ :: _) _ _); refine wpList_box1 rfl 25 _ rfl (.pointer (some ⟨hb, 0, none⟩)) rfl rfl ?_; intro wa hB hL hs; replace cur := cur.push hL hB (Nat.le_refl _) rfl; clear hB hL hs) | ((with_reducible show wpList _ _ _ (⟨_, .box 3 _, _, _, _, _⟩ :: _) _ _); refine wpList_box1 rfl 3 _ rfl (.int .i64 1) rfl rfl ?_; intro wb hB hL hs; replace cur := cur.push hL hB (Nat.le_refl _) rfl; clear hB hL hs) | ((with_reducible show wpList _ _ _ (⟨_, .load 25 (.tmp 2), _, _, _, _⟩ :: _) _ _); refine wpList_load1 (by rfl) 25 _ rfl _ 0 rfl (.pointer (some ⟨hb, 0, none⟩)) (Tryz.isAgg25 _) ((cur.blk 1 rfl).cell 0) ?_) | (go_at_call 106; refine (wbool_in cur.s hf 111 _ (enters_of Tryz.func111 (by kernel_rfl) rfl) (fun x _ => x = true) (fun _ _ _ h _ => h) (fun W1 s1 k1 => (scprev ((hQ.keeps cur.k).keeps k1) hmv (cur.go s1 k1).again).mono (fun _ _ h => h.up hf.2.2.1))).mono ?_; rintro e wX ⟨x, tp', rfl, s9, k9, rfl⟩; replace cur := cur.go s9 k9))
  go_ret2
  exact ⟨tp', rfl, cur.s, cur.k⟩

theorem sedef {n0 : Nat} {w : World} {hb : Nat} {ov : Value} {ob : Nat} {tp : Option Addr} {cap fuel deep : Int} {kd : Kd} {ext : Bool} {L : List (Ky × Ds)} (s : StX n0 w hb ov ob tp cap fuel deep kd ext L) {xb g uc : Nat} {sb : ByteArray} {A : Option Addr} {U : List Int} (hQ : SAt w xb sb g uc A U) (hmv : kd.mv = .iface 103 (.pointer (some ⟨xb, 0, none⟩))) (hf : Can fuel deep kd) (k : Ky) (d : Ds) (hg : kgood k = true) (hd : Nums d) (hkd : Dc.kindB uvalid d = true) (hn : LNums L) (hl : LOk L) : Calls Tryz.prog 56 #[.pointer (some ⟨hb, 0, none⟩), .int .i64 1, .agg (kArr k), .agg (dArr d)] w (DidS (.tuple #[.bool (defBS ext L U k d), .nilIface]) n0 w hb ov ob cap (fuel - 1) deep kd ext (defLS ext L U k d)) := by
  have cur := Bag.start s
  clear s
  go_enter Tryz.func56, Tryz.ntmps56
  go_wp2_with (first | ((with_reducible show wpList _ _ _ (⟨_, .box 25 _, _, _, _, _⟩ :: _) _ _); refine wpList_box1 rfl 25 _ rfl (.pointer (some ⟨hb, 0, none⟩)) rfl rfl ?_; intro wa hB hL hs; replace cur := cur.push hL hB (Nat.le_refl _) rfl; clear hB hL hs) | ((with_reducible show wpList _ _ _ (⟨_, .box 3 _, _, _, _, _⟩ :: _) _ _); refine wpList_box1 rfl 3 _ rfl (.int .i64 1) rfl rfl ?_; intro wb hB hL hs; replace cur := cur.push hL hB (Nat.le_refl _) rfl; clear hB hL hs) | ((with_reducible show wpList _ _ _ (⟨_, .box 40 _, _, _, _, _⟩ :: _) _ _); refine wpList_box_blk rfl 40 _ rfl (kArr k) rfl ?_; intro wc hB hL hs; replace cur := cur.push hL hB (Nat.le_refl _) rfl; clear hB hL hs) | ((with_reducible show wpList _ _ _ (⟨_, .box 43 _, _, _, _, _⟩ :: _) _ _); refine wpList_box_blk rfl 43 _ rfl (dArr d) rfl ?_; intro wd hB hL hs; replace cur := cur.push hL hB (Nat.le_refl _) rfl; clear hB hL hs) | ((with_reducible show wpList _ _ _ (⟨_, .load 25 (.tmp 4), _, _, _, _⟩ :: _) _ _); refine wpList_load1 (by rfl) 25 _ rfl _ 0 rfl (.pointer (some ⟨hb, 0, none⟩)) (Tryz.isAgg25 _) ((cur.blk 3 rfl).cell 0) ?_) | (go_at_call 106; refine (wbool_in cur.s hf 107 _ (enters_of Tryz.func107 (by kernel_rfl) rfl) (fun x _ => x = defBS ext L U k d) (fun _ _ _ h _ => h) (fun W1 s1 k1 => scdef ((hQ.keeps cur.k).keeps k1) hmv k d hg hf.2.2.1 hd hkd hn hl (cur.go s1 k1).again)).mono ?_; rintro e wX ⟨x, tp', rfl, s9, k9, rfl⟩; replace cur := cur.go s9 k9))
  go_ret2
  exact ⟨tp', rfl, cur.s, cur.k⟩

theorem seget0 {n0 : Nat} {w : World} {hb : Nat} {ov : Value} {ob : Nat} {tp : Option Addr} {cap fuel deep : Int} {kd : Kd} {ext : Bool} {L : List (Ky × Ds)} (s : StX n0 w hb ov ob tp cap fuel deep kd ext L) {xb g uc : Nat} {sb : ByteArray} {A : Option Addr} {U : List Int} (hQ : SAt w xb sb g uc A U) (hmv : kd.mv = .iface 103 (.pointer (some ⟨xb, 0, none⟩))) (hf : Can fuel deep kd) (k : Ky) (d : Ds) (b : Bool) (hdo : (ownS L U k).getD Dc.d0 = d) (hbo : (ownS L U k).isSome = b) : Calls Tryz.prog 66 #[.pointer (some ⟨hb, 0, none⟩), .int .i64 1, .agg (kArr k)] w (DidS (.tuple #[.agg (dArr d), .bool b, .nilIface]) n0 w hb ov ob cap (fuel - 1) deep kd ext L) := by
  have cur := Bag.start s
  clear s
  go_enter Tryz.func66, Tryz.ntmps66
  go_wp2_with (first | ((with_reducible show wpList _ _ _ (⟨_, .box 25 _, _, _, _, _⟩ :: _) _ _); refine wpList_box1 rfl 25 _ rfl (.pointer (some ⟨hb, 0, none⟩)) rfl rfl ?_; intro wa hB hL hs; replace cur := cur.push hL hB (Nat.le_refl _) rfl; clear hB hL hs) | ((with_reducible show wpList _ _ _ (⟨_, .box 3 _, _, _, _, _⟩ :: _) _ _); refine wpList_box1 rfl 3 _ rfl (.int .i64 1) rfl rfl ?_; intro wb hB hL hs; replace cur := cur.push hL hB (Nat.le_refl _) rfl; clear hB hL hs) | ((with_reducible show wpList _ _ _ (⟨_, .box 40 _, _, _, _, _⟩ :: _) _ _); refine wpList_box_blk rfl 40 _ rfl (kArr k) rfl ?_; intro wc hB hL hs; replace cur := cur.push hL hB (Nat.le_refl _) rfl; clear hB hL hs) | ((with_reducible show wpList _ _ _ (⟨some 6, .alloc 43, _, _, _, _⟩ :: _) _ _); refine wpList_alloc_blk rfl 43 rfl (dArr Dc.d0) zero43 ?_; intro wr hB hL hs; have hler := cur.k.size; replace cur := cur.push hL hB (Nat.le_refl _) rfl; clear hB hL hs) | ((with_reducible show wpList _ _ _ (⟨_, .load 25 (.tmp 3), _, _, _, _⟩ :: _) _ _); refine wpList_load1 (by rfl) 25 _ rfl _ 0 rfl (.pointer (some ⟨hb, 0, none⟩)) (Tryz.isAgg25 _) ((cur.blk 3 rfl).cell 0) ?_) | (go_at_call 117; refine (wown_in cur.s hf 118 _ (enters_of Tryz.func118 (by kernel_rfl) rfl) (fun x => x = (d, b)) (fun W1 s1 k1 => (scget ((hQ.keeps cur.k).keeps k1) hmv k d b hdo hbo (cur.go s1 k1).again.tail).mono (fun _ _ h => h.up hf.2.2.1))).mono ?_; rintro e wX ⟨x, tp', rfl, s9, k9, rfl⟩; replace cur := cur.go s9 k9; have hw9 := cur.k.size) | ((with_reducible show wpList _ _ _ (⟨some 9, .alloc 192, _, _, _, _⟩ :: _) _ _); refine wpList_alloc_blk rfl 192 rfl (wArr (Dc.d0, false)) zero192 ?_; intro wq hB hL hs; have hleq := cur.k.size; replace cur := cur.push hL hB (Nat.le_refl _) rfl; clear hB hL hs) | ((with_reducible show wpList _ _ _ (⟨_, .store 192 (.tmp 9) _, _, _, _, _⟩ :: _) _ _); refine wpList_store_blk rfl 192 _ _ rfl _ (wArr (d, b)) _ 192 rfl rfl (cur.blk 0 rfl) Tryz.size192 rfl (wCells_one _) ?_; intro wg hB hO; replace cur := cur.set 0 rfl hO hB hleq; clear hB hO))
  refine Ord.region (fun W => Has W ([(wX.heap.size, wArr (d, b), 192)])) [4, 7] (by kernel_rfl) (cur.drew.has (by simp)) ?_
  intro hS
  replace cur := cur.drew
  refine Ord.tp 0 17 rfl rfl ?_
  refine Ord.tk 1 18 rfl rfl (yieldsIf_load_mid (by rfl) 43 _ rfl wX.heap.size 0 rfl ([.int .i64 d.val.kind, .bool d.val.bool, .float .f64 d.val.num, .string d.val.str, .int .i64 d.val.id, .int .i64 d.get.kind, .bool d.get.bool, .float .f64 d.get.num, .string d.get.str, .int .i64 d.get.id, .int .i64 d.set.kind, .bool d.set.bool, .float .f64 d.set.num, .string d.set.str, .int .i64 d.set.id, .int .i64 d.w, .int .i64 d.e, .int .i64 d.c]) _ (fun W hSW => range_own (hSW.blk 0 rfl)) Tryz.underlying43 rfl Tryz.size43) ?_
  refine Ord.tp 2 19 rfl rfl ?_
  refine Ord.tk 3 20 rfl rfl (yields_load1 (by rfl) 4 _ rfl wX.heap.size 18 rfl (.bool b) Tryz.isAgg4 (fun W hSW => (hSW.blk 0 rfl).cell 18)) ?_
  refine Ord.tf 4 21 rfl rfl ?_
  refine Ord.step (i := 5) rfl (by kernel_rfl) (by rfl) ?_
  intro K HK
  refine store_blk_op 43 (.tmp 6) (.tmp 18) rfl _ (dArr d) (dArr Dc.d0) 43 rfl rfl (cur.blk 1 rfl) Tryz.size43 rfl (dCells_one _) ?_
  intro wi hBi hOi
  replace cur := cur.set 1 rfl hOi hBi hler
  clear hBi hOi
  refine HK.out _ _ ?_
  clear HK
  refine Ord.kp ?_ ?_
  · exact cur.has (by simp)
  clear hS
  intro hS
  try simp only [List.setIfInBounds_toArray, List.set_cons_zero, List.set_cons_succ]
  refine Ord.step (i := 6) rfl (by kernel_rfl) (by rfl) ?_
  intro K HK
  go_simp
  refine HK.out _ _ ?_
  clear HK
  refine ⟨Ord.np (by kernel_rfl), ?_⟩
  try simp only [List.setIfInBounds_toArray, List.set_cons_zero, List.set_cons_succ]
  refine Ord.tf 7 8 rfl rfl ?_
  refine Ord.done (by kernel_rfl) ?_ _
  clear hS
  go_wp2
  exact bodyPost_ret (results_cell_tmp2 Tryz.results66 rfl (cur.blk 1 rfl) Tryz.row43 Tryz.size43) rfl ⟨tp', rfl, cur.s, cur.k⟩

theorem seget {n0 : Nat} {w : World} {hb : Nat} {ov : Value} {ob : Nat} {tp : Option Addr} {cap fuel deep : Int} {kd : Kd} {ext : Bool} {L : List (Ky × Ds)} (s : StX n0 w hb ov ob tp cap fuel deep kd ext L) {xb g uc : Nat} {sb : ByteArray} {A : Option Addr} {U : List Int} (hQ : SAt w xb sb g uc A U) (hmv : kd.mv = .iface 103 (.pointer (some ⟨xb, 0, none⟩))) (hf : Can fuel deep kd) (k : Ky) : Calls Tryz.prog 66 #[.pointer (some ⟨hb, 0, none⟩), .int .i64 1, .agg (kArr k)] w (DidS (rdS L U k) n0 w hb ov ob cap (fuel - 1) deep kd ext L) := seget0 s hQ hmv hf k _ _ rfl rfl


end Go.Proofs.YtoalboilghgalaaGreatDoor

/- Heap.SetBy, of a String object that receives itself. -/
namespace Go.Proofs.YtoalboilghgalaaGreatDoor
open Go.RowKit
open Go.Proofs.Dc (V Ds Ky)
attribute [local go_sem] run_store_float

/-- a property that is new by an assignment; the value alone of one that stands -/
def newD (v : V) : Ds := { Dc.d0 with val := v, w := 2, e := 2, c := 2 }
def oldD (v : V) : Ds := { Dc.d0 with val := v }
theorem newD_ok {v : V} (h : Dc.good uvalid v = true) : Dc.kindB uvalid (newD v) = true := by
  have h1 : Dc.there v = true := by
    unfold Dc.good Dc.vin at h
    unfold Dc.there
    by_cases h0 : v.kind = 0
    · simp [h0] at h
    · simp [h0]
  simp [Dc.kindB, Dc.formed, newD, h, h1, Dc.callab, Dc.absent, Dc.d0, Dc.v0, Dc.isE, Dc.tri, Dc.there]
theorem oldD_ok {v : V} (h : Dc.good uvalid v = true) : Dc.kindB uvalid (oldD v) = true := by
  have h1 : Dc.there v = true := by
    unfold Dc.good Dc.vin at h
    unfold Dc.there
    by_cases h0 : v.kind = 0
    · simp [h0] at h
    · simp [h0]
  simp [Dc.kindB, Dc.formed, oldD, h, h1, Dc.callab, Dc.absent, Dc.d0, Dc.v0, Dc.isE, Dc.tri, Dc.there]
theorem newD_nums {v : V} (h : v.num < 2 ^ 64) : Nums (newD v) := ⟨h, show (0 : Nat) < 2 ^ 64 by decide, show (0 : Nat) < 2 ^ 64 by decide⟩
theorem oldD_nums {v : V} (h : v.num < 2 ^ 64) : Nums (oldD v) := ⟨h, show (0 : Nat) < 2 ^ 64 by decide, show (0 : Nat) < 2 ^ 64 by decide⟩
/-- what an assignment leaves -/
def SetPost (fuel : Int) (L' : List (Ky × Ds)) (n0 : Nat) (w : World) (hb : Nat) (ov : Value) (ob : Nat) (cap f deep : Int) (kd : Kd) (ext : Bool) (b : Bool) (e : Ending) (w' : World) : Prop :=
  ∃ tp, e = .returned (.tuple #[.bool b, .nilIface]) ∧ StX n0 w' hb ov ob tp cap f deep kd ext L' ∧ Keeps n0 w w' ∧ fuel - 2 ≤ f
def vR1 : V := ⟨7, false, 0, ByteArray.empty, 1⟩

theorem setby_acc {n0 : Nat} {w : World} {hb : Nat} {ov : Value} {ob : Nat} {tp : Option Addr} {cap fuel deep : Int} {kd : Kd} {ext : Bool} {L : List (Ky × Ds)} (s : StX n0 w hb ov ob tp cap fuel deep kd ext L) {xb g uc : Nat} {sb : ByteArray} {A : Option Addr} {U : List Int} (hQ : SAt w xb sb g uc A U) (hmv : kd.mv = .iface 103 (.pointer (some ⟨xb, 0, none⟩))) (hf : Can fuel deep kd) (k : Ky) (v : V) (d : Ds) (hnd : Nums d) (hacc : (Dc.kindB uvalid d && Dc.kindN uvalid d == 2) = true) (hsk : ¬ d.set.kind = 7) : Calls Tryz.prog 229 #[.pointer (some ⟨hb, 0, none⟩), .agg (dArr d), .agg (kArr k), .agg (vArr v), .agg (vArr vR1)] w (SetPost fuel L n0 w hb ov ob cap fuel deep kd ext false) := by
  have cA : ∀ W, Tabs W → Calls Tryz.prog 81 #[.agg (dArr d)] W fun e w' => e = .returned (.bool true) ∧ Below W.heap.size W w' := fun W h => by
    have := accessor_any d W h hnd
    rw [hacc] at this
    exact this
  have cur := Bag.start s
  clear s
  go_enter Tryz.func229, Tryz.ntmps229
  go_wp2_with (first | ((with_reducible show wpList _ _ _ (⟨_, .box 43 _, _, _, _, _⟩ :: _) _ _); refine wpList_box_blk rfl 43 _ rfl (dArr d) rfl ?_; intro wd hB hL hs; replace cur := cur.push hL hB (Nat.le_refl _) rfl; clear hB hL hs) | ((with_reducible show wpList _ _ _ (⟨_, .box 40 _, _, _, _, _⟩ :: _) _ _); refine wpList_box_blk rfl 40 _ rfl (kArr k) rfl ?_; intro wk hB hL hs; replace cur := cur.push hL hB (Nat.le_refl _) rfl; clear hB hL hs) | ((with_reducible show wpList _ _ _ (⟨some 8, .box 36 _, _, _, _, _⟩ :: _) _ _); refine wpList_box_blk rfl 36 _ rfl (vArr v) rfl ?_; intro wv hB hL hs; replace cur := cur.push hL hB (Nat.le_refl _) rfl; clear hB hL hs) | ((with_reducible show wpList _ _ _ (⟨some 9, .box 36 _, _, _, _, _⟩ :: _) _ _); refine wpList_box_blk rfl 36 _ rfl (vArr vR1) rfl ?_; intro wr hB hL hs; replace cur := cur.push hL hB (Nat.le_refl _) rfl; clear hB hL hs) | ((with_reducible show wpList _ _ _ (⟨_, .load 43 (.tmp 6), _, _, _, _⟩ :: _) _ _); refine wpList_load_blk rfl 43 _ rfl _ rfl (cur.blk 3 rfl) Tryz.row43 Tryz.size43 ?_) | (go_at_call 81; refine (cA _ cur.s.tabs).mono ?_; rintro e wq ⟨rfl, hb'⟩; replace cur := cur.next hb'; clear hb') | ((with_reducible show wpList _ _ _ (⟨_, .load 3 (.tmp 20), _, _, _, _⟩ :: _) _ _); refine wpList_load1 (by rfl) 3 _ rfl _ 10 rfl (.int .i64 d.set.kind) (Tryz.isAgg3 _) ((cur.blk 3 rfl).cell 10) ?_))
  go_ret2
  exact ⟨tp, rfl, cur.s, cur.k, by omega⟩

theorem setby_ro {n0 : Nat} {w : World} {hb : Nat} {ov : Value} {ob : Nat} {tp : Option Addr} {cap fuel deep : Int} {kd : Kd} {ext : Bool} {L : List (Ky × Ds)} (s : StX n0 w hb ov ob tp cap fuel deep kd ext L) {xb g uc : Nat} {sb : ByteArray} {A : Option Addr} {U : List Int} (hQ : SAt w xb sb g uc A U) (hmv : kd.mv = .iface 103 (.pointer (some ⟨xb, 0, none⟩))) (hf : Can fuel deep kd) (k : Ky) (v : V) (d : Ds) (hnd : Nums d) (hacc : (Dc.kindB uvalid d && Dc.kindN uvalid d == 2) = false) (hw : d.w = 1) : Calls Tryz.prog 229 #[.pointer (some ⟨hb, 0, none⟩), .agg (dArr d), .agg (kArr k), .agg (vArr v), .agg (vArr vR1)] w (SetPost fuel L n0 w hb ov ob cap fuel deep kd ext false) := by
  have cA : ∀ W, Tabs W → Calls Tryz.prog 81 #[.agg (dArr d)] W fun e w' => e = .returned (.bool false) ∧ Below W.heap.size W w' := fun W h => by
    have := accessor_any d W h hnd
    rw [hacc] at this
    exact this
  have cur := Bag.start s
  clear s
  go_enter Tryz.func229, Tryz.ntmps229
  go_wp2_with (first | ((with_reducible show wpList _ _ _ (⟨_, .box 43 _, _, _, _, _⟩ :: _) _ _); refine wpList_box_blk rfl 43 _ rfl (dArr d) rfl ?_; intro wd hB hL hs; replace cur := cur.push hL hB (Nat.le_refl _) rfl; clear hB hL hs) | ((with_reducible show wpList _ _ _ (⟨_, .box 40 _, _, _, _, _⟩ :: _) _ _); refine wpList_box_blk rfl 40 _ rfl (kArr k) rfl ?_; intro wk hB hL hs; replace cur := cur.push hL hB (Nat.le_refl _) rfl; clear hB hL hs) | ((with_reducible show wpList _ _ _ (⟨some 8, .box 36 _, _, _, _, _⟩ :: _) _ _); refine wpList_box_blk rfl 36 _ rfl (vArr v) rfl ?_; intro wv hB hL hs; replace cur := cur.push hL hB (Nat.le_refl _) rfl; clear hB hL hs) | ((with_reducible show wpList _ _ _ (⟨some 9, .box 36 _, _, _, _, _⟩ :: _) _ _); refine wpList_box_blk rfl 36 _ rfl (vArr vR1) rfl ?_; intro wr hB hL hs; replace cur := cur.push hL hB (Nat.le_refl _) rfl; clear hB hL hs) | ((with_reducible show wpList _ _ _ (⟨_, .load 43 (.tmp 6), _, _, _, _⟩ :: _) _ _); refine wpList_load_blk rfl 43 _ rfl _ rfl (cur.blk 3 rfl) Tryz.row43 Tryz.size43 ?_) | (go_at_call 81; refine (cA _ cur.s.tabs).mono ?_; rintro e wq ⟨rfl, hb'⟩; replace cur := cur.next hb'; clear hb') | ((with_reducible show wpList _ _ _ (⟨_, .load 41 (.tmp 37), _, _, _, _⟩ :: _) _ _); refine wpList_load1 (by rfl) 41 _ rfl _ 15 rfl (.int .i64 d.w) (Tryz.isAgg41 _) ((cur.blk 3 rfl).cell 15) ?_))
  go_ret2
  exact ⟨tp, rfl, cur.s, cur.k, by omega⟩

theorem setby_new {n0 : Nat} {w : World} {hb : Nat} {ov : Value} {ob : Nat} {tp : Option Addr} {cap fuel deep : Int} {kd : Kd} {ext : Bool} {L : List (Ky × Ds)} (s : StX n0 w hb ov ob tp cap fuel deep kd ext L) {xb g uc : Nat} {sb : ByteArray} {A : Option Addr} {U : List Int} (hQ : SAt w xb sb g uc A U) (hmv : kd.mv = .iface 103 (.pointer (some ⟨xb, 0, none⟩))) (hf : Can fuel deep kd) (k : Ky) (v : V) (d : Ds) (hnd : Nums d) (hf2 : 1 < fuel) (hg : kgood k = true) (hv : Dc.good uvalid v = true) (hvn : v.num < 2 ^ 64) (hn : LNums L) (hl : LOk L) (hacc : (Dc.kindB uvalid d && Dc.kindN uvalid d == 2) = false) (hw : ¬ d.w = 1) (ho : ownS L U k = none) : Calls Tryz.prog 229 #[.pointer (some ⟨hb, 0, none⟩), .agg (dArr d), .agg (kArr k), .agg (vArr v), .agg (vArr vR1)] w (SetPost fuel (defLS ext L U k (newD v)) n0 w hb ov ob cap (fuel - 1 - 1) deep kd ext (defBS ext L U k (newD v))) := by
  have cA : ∀ W, Tabs W → Calls Tryz.prog 81 #[.agg (dArr d)] W fun e w' => e = .returned (.bool false) ∧ Below W.heap.size W w' := fun W h => by
    have := accessor_any d W h hnd
    rw [hacc] at this
    exact this
  have hf1 : Can (fuel - 1) deep kd := ⟨by omega, by have := hf.2.1; omega, hf.2.2⟩
  have cG : ∀ W, StX n0 W hb ov ob tp cap fuel deep kd ext L → Keeps n0 w W → Calls Tryz.prog 66 #[.pointer (some ⟨hb, 0, none⟩), .int .i64 1, .agg (kArr k)] W (DidS (.tuple #[.agg (dArr (Dc.d0)), .bool false, .nilIface]) n0 W hb ov ob cap (fuel - 1) deep kd ext L) := fun W s hk => by
    have h := seget s (hQ.keeps hk) hmv hf k
    unfold rdS at h
    rw [ho] at h
    exact h
  have cF : ∀ W tpX, StX n0 W hb ov ob tpX cap (fuel - 1) deep kd ext L → Keeps n0 w W → Calls Tryz.prog 56 #[.pointer (some ⟨hb, 0, none⟩), .int .i64 1, .agg (kArr k), .agg (dArr (newD v))] W (DidS (.tuple #[.bool (defBS ext L U k (newD v)), .nilIface]) n0 W hb ov ob cap (fuel - 1 - 1) deep kd ext (defLS ext L U k (newD v))) := fun W tpX s hk =>
    sedef s (hQ.keeps hk) hmv hf1 k (newD v) hg (newD_nums hvn) (newD_ok hv) hn hl
  have cur := Bag.start s
  clear s
  go_enter Tryz.func229, Tryz.ntmps229
  go_wp2_with (first | ((with_reducible show wpList _ _ _ (⟨_, .box 43 _, _, _, _, _⟩ :: _) _ _); refine wpList_box_blk rfl 43 _ rfl (dArr d) rfl ?_; intro wd hB hL hs; replace cur := cur.push hL hB (Nat.le_refl _) rfl; clear hB hL hs) | ((with_reducible show wpList _ _ _ (⟨_, .box 40 _, _, _, _, _⟩ :: _) _ _); refine wpList_box_blk rfl 40 _ rfl (kArr k) rfl ?_; intro wk hB hL hs; replace cur := cur.push hL hB (Nat.le_refl _) rfl; clear hB hL hs) | ((with_reducible show wpList _ _ _ (⟨some 8, .box 36 _, _, _, _, _⟩ :: _) _ _); refine wpList_box_blk rfl 36 _ rfl (vArr v) rfl ?_; intro wv hB hL hs; replace cur := cur.push hL hB (Nat.le_refl _) rfl; clear hB hL hs) | ((with_reducible show wpList _ _ _ (⟨some 9, .box 36 _, _, _, _, _⟩ :: _) _ _); refine wpList_box_blk rfl 36 _ rfl (vArr vR1) rfl ?_; intro wr hB hL hs; replace cur := cur.push hL hB (Nat.le_refl _) rfl; clear hB hL hs) | ((with_reducible show wpList _ _ _ (⟨_, .load 43 (.tmp 6), _, _, _, _⟩ :: _) _ _); refine wpList_load_blk rfl 43 _ rfl _ rfl (cur.blk 3 rfl) Tryz.row43 Tryz.size43 ?_) | (go_at_call 81; refine (cA _ cur.s.tabs).mono ?_; rintro e wq ⟨rfl, hb'⟩; replace cur := cur.next hb'; clear hb'; have hcr : wq.cell? ⟨wv.heap.size, 0, none⟩ = some (.int .i64 7) := (cur.blk 0 rfl).cell 0) | (go_at_call 81; refine (cA _ cur.s.tabs).mono ?_; rintro e wh ⟨rfl, hb'⟩; replace cur := cur.next hb'; clear hb'; have hcn : wh.cell? ⟨wg.heap.size, 15, none⟩ = some (.int .i64 d.w) := (cur.blk 0 rfl).cell 15) | ((with_reducible show wpList _ _ _ (⟨_, .load 41 (.tmp 37), _, _, _, _⟩ :: _) _ _); refine wpList_load1 (by rfl) 41 _ rfl _ 15 rfl (.int .i64 d.w) (Tryz.isAgg41 _) ((cur.blk 3 rfl).cell 15) ?_) | ((with_reducible show wpList _ _ _ (⟨_, .load 3 (.tmp 41), _, _, _, _⟩ :: _) _ _); refine wpList_load1 (by rfl) 3 _ rfl _ 0 rfl (.int .i64 7) (Tryz.isAgg3 _) ((cur.blk 0 rfl).cell 0) ?_) | ((with_reducible show wpList _ _ _ (⟨_, .load 3 (.tmp 47), _, _, _, _⟩ :: _) _ _); refine wpList_load1 (by rfl) 3 _ rfl _ 4 rfl (.int .i64 1) (Tryz.isAgg3 _) ((cur.blk 0 rfl).cell 4) ?_) | ((with_reducible show wpList _ _ _ (⟨_, .load 40 (.tmp 7), _, _, _, _⟩ :: _) _ _); refine wpList_load_blk rfl 40 _ rfl _ rfl (cur.blk 2 rfl) Tryz.row40 Tryz.size40 ?_) | ((with_reducible show wpList _ _ _ (⟨_, .load 40 (.tmp 7), _, _, _, _⟩ :: _) _ _); refine wpList_load_blk rfl 40 _ rfl _ rfl (cur.blk 3 rfl) Tryz.row40 Tryz.size40 ?_) | (go_at_call 66; refine (cG _ cur.s cur.k).mono ?_; rintro e wg ⟨tp9, rfl, s9, k9⟩; replace cur := cur.go s9 k9) | ((with_reducible show wpList _ _ _ (⟨some 14, .alloc 43, _, _, _, _⟩ :: _) _ _); refine wpList_alloc_blk rfl 43 rfl (dArr Dc.d0) zero43 ?_; intro wn hB hL hs; have hln := cur.k.size; replace cur := cur.push hL hB (Nat.le_refl _) rfl; clear hB hL hs) | ((with_reducible show wpList _ _ _ (⟨_, .store 43 (.tmp 14) _, _, _, _, _⟩ :: _) _ _); refine wpList_store_blk rfl 43 _ _ rfl _ (dArr Dc.d0) _ 43 rfl rfl (cur.blk 0 rfl) Tryz.size43 rfl (dCells_one _) ?_; intro wn2 hB hO; replace cur := cur.set 0 rfl hO hB hln; clear hB hO) | ((with_reducible show wpList _ _ _ (⟨_, .load 3 (.tmp 62), _, _, _, _⟩ :: _) _ _); refine wpList_load1 (by rfl) 3 _ rfl _ 4 rfl (.int .i64 1) (Tryz.isAgg3 _) ((cur.blk 1 rfl).cell 4) ?_) | ((with_reducible show wpList _ _ _ (⟨_, .load 3 (.tmp 79), _, _, _, _⟩ :: _) _ _); refine wpList_load1 (by rfl) 3 _ rfl _ 4 rfl (.int .i64 1) (Tryz.isAgg3 _) ((cur.blk 1 rfl).cell 4) ?_) | ((with_reducible show wpList _ _ _ (⟨_, .load 43 (.tmp 14), _, _, _, _⟩ :: _) _ _); refine wpList_load_blk rfl 43 _ rfl _ rfl (cur.blk 0 rfl) Tryz.row43 Tryz.size43 ?_) | ((with_reducible show wpList _ _ _ (⟨_, .load 41 (.tmp 74), _, _, _, _⟩ :: _) _ _); refine wpList_load1 (by rfl) 41 _ rfl _ 15 rfl (.int .i64 d.w) (Tryz.isAgg41 _) ((cur.blk 0 rfl).cell 15) ?_) | ((with_reducible show wpList _ _ _ (⟨_, .load 36 (.tmp 8), _, _, _, _⟩ :: _) _ _); refine wpList_load_blk rfl 36 _ rfl _ rfl (show Blk _ _ (#[.int .i64 v.kind, .bool v.bool, .float .f64 v.num, .string v.str, .int .i64 v.id]) 36 from cur.blk 2 rfl) Tryz.row36 Tryz.size36 ?_) | (go_at_call 56; refine (cF _ _ cur.s cur.k).mono ?_; rintro e wf ⟨tpf, rfl, s9, k9⟩; replace cur := cur.go s9 k9))
  go_ret2
  exact ⟨tpf, rfl, cur.s, cur.k, by omega⟩

theorem setby_old {n0 : Nat} {w : World} {hb : Nat} {ov : Value} {ob : Nat} {tp : Option Addr} {cap fuel deep : Int} {kd : Kd} {ext : Bool} {L : List (Ky × Ds)} (s : StX n0 w hb ov ob tp cap fuel deep kd ext L) {xb g uc : Nat} {sb : ByteArray} {A : Option Addr} {U : List Int} (hQ : SAt w xb sb g uc A U) (hmv : kd.mv = .iface 103 (.pointer (some ⟨xb, 0, none⟩))) (hf : Can fuel deep kd) (k : Ky) (v : V) (d : Ds) (hnd : Nums d) (hf2 : 1 < fuel) (hg : kgood k = true) (hv : Dc.good uvalid v = true) (hvn : v.num < 2 ^ 64) (hn : LNums L) (hl : LOk L) (hacc : (Dc.kindB uvalid d && Dc.kindN uvalid d == 2) = false) (hw : ¬ d.w = 1) (ho : ownS L U k = some d) : Calls Tryz.prog 229 #[.pointer (some ⟨hb, 0, none⟩), .agg (dArr d), .agg (kArr k), .agg (vArr v), .agg (vArr vR1)] w (SetPost fuel (defLS ext L U k (oldD v)) n0 w hb ov ob cap (fuel - 1 - 1) deep kd ext (defBS ext L U k (oldD v))) := by
  have cA : ∀ W, Tabs W → Calls Tryz.prog 81 #[.agg (dArr d)] W fun e w' => e = .returned (.bool false) ∧ Below W.heap.size W w' := fun W h => by
    have := accessor_any d W h hnd
    rw [hacc] at this
    exact this
  have hf1 : Can (fuel - 1) deep kd := ⟨by omega, by have := hf.2.1; omega, hf.2.2⟩
  have cG : ∀ W, StX n0 W hb ov ob tp cap fuel deep kd ext L → Keeps n0 w W → Calls Tryz.prog 66 #[.pointer (some ⟨hb, 0, none⟩), .int .i64 1, .agg (kArr k)] W (DidS (.tuple #[.agg (dArr (d)), .bool true, .nilIface]) n0 W hb ov ob cap (fuel - 1) deep kd ext L) := fun W s hk => by
    have h := seget s (hQ.keeps hk) hmv hf k
    unfold rdS at h
    rw [ho] at h
    exact h
  have cF : ∀ W tpX, StX n0 W hb ov ob tpX cap (fuel - 1) deep kd ext L → Keeps n0 w W → Calls Tryz.prog 56 #[.pointer (some ⟨hb, 0, none⟩), .int .i64 1, .agg (kArr k), .agg (dArr (oldD v))] W (DidS (.tuple #[.bool (defBS ext L U k (oldD v)), .nilIface]) n0 W hb ov ob cap (fuel - 1 - 1) deep kd ext (defLS ext L U k (oldD v))) := fun W tpX s hk =>
    sedef s (hQ.keeps hk) hmv hf1 k (oldD v) hg (oldD_nums hvn) (oldD_ok hv) hn hl
  have cur := Bag.start s
  clear s
  go_enter Tryz.func229, Tryz.ntmps229
  go_wp2_with (first | ((with_reducible show wpList _ _ _ (⟨_, .box 43 _, _, _, _, _⟩ :: _) _ _); refine wpList_box_blk rfl 43 _ rfl (dArr d) rfl ?_; intro wd hB hL hs; replace cur := cur.push hL hB (Nat.le_refl _) rfl; clear hB hL hs) | ((with_reducible show wpList _ _ _ (⟨_, .box 40 _, _, _, _, _⟩ :: _) _ _); refine wpList_box_blk rfl 40 _ rfl (kArr k) rfl ?_; intro wk hB hL hs; replace cur := cur.push hL hB (Nat.le_refl _) rfl; clear hB hL hs) | ((with_reducible show wpList _ _ _ (⟨some 8, .box 36 _, _, _, _, _⟩ :: _) _ _); refine wpList_box_blk rfl 36 _ rfl (vArr v) rfl ?_; intro wv hB hL hs; replace cur := cur.push hL hB (Nat.le_refl _) rfl; clear hB hL hs) | ((with_reducible show wpList _ _ _ (⟨some 9, .box 36 _, _, _, _, _⟩ :: _) _ _); refine wpList_box_blk rfl 36 _ rfl (vArr vR1) rfl ?_; intro wr hB hL hs; replace cur := cur.push hL hB (Nat.le_refl _) rfl; clear hB hL hs) | ((with_reducible show wpList _ _ _ (⟨_, .load 43 (.tmp 6), _, _, _, _⟩ :: _) _ _); refine wpList_load_blk rfl 43 _ rfl _ rfl (cur.blk 3 rfl) Tryz.row43 Tryz.size43 ?_) | (go_at_call 81; refine (cA _ cur.s.tabs).mono ?_; rintro e wq ⟨rfl, hb'⟩; replace cur := cur.next hb'; clear hb'; have hcr : wq.cell? ⟨wv.heap.size, 0, none⟩ = some (.int .i64 7) := (cur.blk 0 rfl).cell 0) | (go_at_call 81; refine (cA _ cur.s.tabs).mono ?_; rintro e wh ⟨rfl, hb'⟩; replace cur := cur.next hb'; clear hb'; have hcn : wh.cell? ⟨wg.heap.size, 15, none⟩ = some (.int .i64 d.w) := (cur.blk 0 rfl).cell 15) | ((with_reducible show wpList _ _ _ (⟨_, .load 41 (.tmp 37), _, _, _, _⟩ :: _) _ _); refine wpList_load1 (by rfl) 41 _ rfl _ 15 rfl (.int .i64 d.w) (Tryz.isAgg41 _) ((cur.blk 3 rfl).cell 15) ?_) | ((with_reducible show wpList _ _ _ (⟨_, .load 3 (.tmp 41), _, _, _, _⟩ :: _) _ _); refine wpList_load1 (by rfl) 3 _ rfl _ 0 rfl (.int .i64 7) (Tryz.isAgg3 _) ((cur.blk 0 rfl).cell 0) ?_) | ((with_reducible show wpList _ _ _ (⟨_, .load 3 (.tmp 47), _, _, _, _⟩ :: _) _ _); refine wpList_load1 (by rfl) 3 _ rfl _ 4 rfl (.int .i64 1) (Tryz.isAgg3 _) ((cur.blk 0 rfl).cell 4) ?_) | ((with_reducible show wpList _ _ _ (⟨_, .load 40 (.tmp 7), _, _, _, _⟩ :: _) _ _); refine wpList_load_blk rfl 40 _ rfl _ rfl (cur.blk 2 rfl) Tryz.row40 Tryz.size40 ?_) | ((with_reducible show wpList _ _ _ (⟨_, .load 40 (.tmp 7), _, _, _, _⟩ :: _) _ _); refine wpList_load_blk rfl 40 _ rfl _ rfl (cur.blk 3 rfl) Tryz.row40 Tryz.size40 ?_) | (go_at_call 66; refine (cG _ cur.s cur.k).mono ?_; rintro e wg ⟨tp9, rfl, s9, k9⟩; replace cur := cur.go s9 k9) | ((with_reducible show wpList _ _ _ (⟨some 14, .alloc 43, _, _, _, _⟩ :: _) _ _); refine wpList_alloc_blk rfl 43 rfl (dArr Dc.d0) zero43 ?_; intro wn hB hL hs; have hln := cur.k.size; replace cur := cur.push hL hB (Nat.le_refl _) rfl; clear hB hL hs) | ((with_reducible show wpList _ _ _ (⟨_, .store 43 (.tmp 14) _, _, _, _, _⟩ :: _) _ _); refine wpList_store_blk rfl 43 _ _ rfl _ (dArr d) _ 43 rfl rfl (cur.blk 0 rfl) Tryz.size43 rfl (dCells_one _) ?_; intro wn2 hB hO; replace cur := cur.set 0 rfl hO hB hln; clear hB hO) | ((with_reducible show wpList _ _ _ (⟨_, .load 3 (.tmp 62), _, _, _, _⟩ :: _) _ _); refine wpList_load1 (by rfl) 3 _ rfl _ 4 rfl (.int .i64 1) (Tryz.isAgg3 _) ((cur.blk 1 rfl).cell 4) ?_) | ((with_reducible show wpList _ _ _ (⟨_, .load 3 (.tmp 79), _, _, _, _⟩ :: _) _ _); refine wpList_load1 (by rfl) 3 _ rfl _ 4 rfl (.int .i64 1) (Tryz.isAgg3 _) ((cur.blk 1 rfl).cell 4) ?_) | ((with_reducible show wpList _ _ _ (⟨_, .load 43 (.tmp 14), _, _, _, _⟩ :: _) _ _); refine wpList_load_blk rfl 43 _ rfl _ rfl (cur.blk 0 rfl) Tryz.row43 Tryz.size43 ?_) | ((with_reducible show wpList _ _ _ (⟨_, .load 41 (.tmp 74), _, _, _, _⟩ :: _) _ _); refine wpList_load1 (by rfl) 41 _ rfl _ 15 rfl (.int .i64 d.w) (Tryz.isAgg41 _) ((cur.blk 0 rfl).cell 15) ?_) | ((with_reducible show wpList _ _ _ (⟨_, .load 36 (.tmp 8), _, _, _, _⟩ :: _) _ _); refine wpList_load_blk rfl 36 _ rfl _ rfl (show Blk _ _ (#[.int .i64 v.kind, .bool v.bool, .float .f64 v.num, .string v.str, .int .i64 v.id]) 36 from cur.blk 2 rfl) Tryz.row36 Tryz.size36 ?_) | (go_at_call 56; refine (cF _ _ cur.s cur.k).mono ?_; rintro e wf ⟨tpf, rfl, s9, k9⟩; replace cur := cur.go s9 k9))
  go_ret2
  exact ⟨tpf, rfl, cur.s, cur.k, by omega⟩


end Go.Proofs.YtoalboilghgalaaGreatDoor
