/- Lemmas for this claim, in parts: Zed, Nssym, Nsmeth. -/
import Derived.Test.YtoalboilghgalaaGreatDoorB26
import Derived.Test.YtoalboilghgalaaGreatDoorB01
import Derived.Test.YtoalboilghgalaaGreatDoorB37
set_option maxRecDepth 100000
set_option maxHeartbeats 4000000
set_option linter.unusedVariables false
set_option linter.unusedSimpArgs false
/- An embedded struct without fields: its place, the methods that come through it. -/
namespace Go.Proofs.YtoalboilghgalaaGreatDoor
open Go.RowKit
theorem cells160 : Tryz.prog.cellsOf 160 = 1 := by kernel_rfl
theorem cell160 : byteOfCell Tryz.prog Tryz.prog.depth 160 0 = some 0 := by kernel_rfl
theorem byte160 {W : World} {xb : Nat} {C : Array Value} (h : Blk W xb C 160) : (byteOf ⟨xb, 0, none⟩).run Tryz.prog W = .ok 0 W := by
  have hs : W.shape? xb = some (160, C.size) := by unfold World.shape?; rw [show W.heap[xb]? = _ from h]
  have hh : W.heap[xb]? = some (.cells C 160 (0, 0)) := h
  unfold byteOf
  simp [noView, viewAt, hs, hh, cells160, cell160, Sem.run, program, shape]
theorem part160 {W : World} {xb : Nat} {C : Array Value} (h : Blk W xb C 160) : (partAt ⟨xb, 0, none⟩ 0 0).run Tryz.prog W = .ok ⟨xb, 0, none⟩ W := by
  unfold partAt
  simp [byte160 h]
theorem size105 (w : World) : (sizeOf 105).run Tryz.prog w = .ok 0 w := by kernel_rfl
theorem agg105 (w : World) : (isAgg 105).run Tryz.prog w = .ok true w := by kernel_rfl
theorem load105 (w : World) (a : Addr) : (loadVar 105 a).run Tryz.prog w = .ok (.agg #[]) w := by
  unfold loadVar
  simp [size105, agg105, loadCells, loadCellsFrom]
theorem under160 : ∃ fs : Array Field, Tryz.prog.underlying 160 = some (.struct fs) ∧ ∃ f, fs[0]? = some f ∧ f.type = 105 ∧ f.offset = 0 ∧ f.byteOffset = 0 := ⟨_, Tryz.underlying160, _, rfl, rfl, rfl, rfl⟩
noncomputable def methB (name : String) : Option (Option (FuncId × Bool) × List (TypeId × Nat × Bool)) := (Tryz.prog.info? 157).bind fun i => (i.methods.find? (·.name == name)).map fun m => (m.func, m.path.toList.map fun s => (s.struct, s.index, s.deref))
theorem methPrev : methB "PreventExtensions" = some (some (215, false), [(160, 0, true)]) := by kernel_rfl
theorem meth_of {name : String} {f : FuncId} (h : methB name = some (some (f, false), [(160, 0, true)])) {W : World} {xb : Nat} {C : Array Value} (hB : Blk W xb C 160) (fuel : Nat) : (method (fuel + 1) 157 (.pointer (some ⟨xb, 0, none⟩)) name).run Tryz.prog W = .ok (f, .agg #[]) W := by
  unfold methB at h
  cases hi : Tryz.prog.info? 157 with
  | none => rw [hi] at h; cases h
  | some i =>
    rw [hi] at h
    simp only [Option.bind_some, Option.map_eq_some_iff] at h
    obtain ⟨m, hm, he⟩ := h
    simp only [Prod.mk.injEq] at he
    obtain ⟨h1, h2⟩ := he
    obtain ⟨s, hs, h3⟩ : ∃ s, m.path.toList = [s] ∧ (s.struct, s.index, s.deref) = (160, 0, true) := by
      cases hp : m.path.toList with
      | nil => rw [hp] at h2; cases h2
      | cons a r =>
        rw [hp] at h2
        cases r with
        | nil => exact ⟨a, rfl, by simpa using h2⟩
        | cons b r => simp at h2
    simp only [Prod.mk.injEq] at h3
    obtain ⟨s1, s2, s3⟩ := h3
    obtain ⟨fs, hu, fd, hf, f1, f2, f3⟩ := under160
    unfold method
    have hp := part160 hB
    simp [typeInfo, program, Sem.run, hi, hm, h1, hs, follow, s1, s2, s3, hf, f1, f2, f3, run_underlying hu, Place.get, asAddr, fieldPlace, size105, hp, receiverAt, run_underlying Tryz.underlying105, load105]
theorem xmPrev {W : World} {xb : Nat} {C : Array Value} (hB : Blk W xb C 160) : (method 451 157 (.pointer (some ⟨xb, 0, none⟩)) "PreventExtensions").run Tryz.prog W = .ok (215, .agg #[]) W := meth_of methPrev hB 450
end Go.Proofs.YtoalboilghgalaaGreatDoor

/- A namespace's GetOwnProperty of a symbol; ordinary HasProperty and Delete over it. -/
namespace Go.Proofs.YtoalboilghgalaaGreatDoor
open Go.RowKit
open Go.Proofs.Dc (V Ds Ky)
attribute [local go_sem] run_store_float

theorem yields_fld0 {ops : Array Oper} {S : World → Prop} {o : Oper} {a : Act} (hw : Region.wanted o (yielded ops a.tmps) = true) (x : Operand) (ho : o.op = .fieldAddr 160 x 0) (xb : Nat) (hx : a.eval x = .pointer (some ⟨xb, 0, none⟩)) (hB : ∀ W, S W → ∃ C, Blk W xb C 160) : YieldsIf Tryz.prog ops S o (.pointer (some ⟨xb, 0, none⟩)) a :=
  .inl ⟨hw, fun W hS => by
    obtain ⟨C, hC⟩ := hB W hS
    obtain ⟨fs, hu, fd, hf, f1, f2, f3⟩ := under160
    have hp := part160 hC
    unfold execOp
    simp [ho, hx, Instr.fieldAt, Instr.sureAddr, run_underlying hu, hf, fieldPlace, f1, f2, f3, size105, hp]⟩
theorem yields_ld105 {ops : Array Oper} {S : World → Prop} {o : Oper} {a : Act} (hw : Region.wanted o (yielded ops a.tmps) = true) (x : Operand) (ho : o.op = .load 105 x) (p : Addr) (hx : a.eval x = .pointer (some p)) : YieldsIf Tryz.prog ops S o (.agg #[]) a :=
  .inl ⟨hw, fun W _ => by
    unfold execOp
    simp only [ho, hx, Instr.loadAt, Instr.sureAddr, Sem.run_bind, Sem.run_pure, Result.andThen_ok, load105]⟩
theorem nown_sym {n0 : Nat} {w : World} {hb : Nat} {ov : Value} {ob : Nat} {tp : Option Addr} {cap fuel deep : Int} {xb : Nat} {ext : Bool} {L : List (Ky × Ds)} (s : StX n0 w hb ov ob tp cap fuel deep (kN xb) ext L) {g xc : Nat} {a : Option Addr} {l : List Ex} (hX : XAt w xb g xc a l) (k : Ky) (hk : ¬ k.sym = 0) : Calls Tryz.prog 282 #[.pointer (some ⟨xb, 0, none⟩), .pointer (some ⟨hb, 0, none⟩), .int .i64 1, .agg (kArr k)] w fun e w' => DidE (.tuple #[.agg (dArr ((getL L k).getD Dc.d0)), .bool (getL L k).isSome, .nilIface]) n0 w hb ov ob cap fuel deep (kN xb) ext L e w' := by
  have cur := (Bag.start s).have hX.blk rfl (by simp)
  clear s
  go_enter Tryz.func282, Tryz.ntmps282
  go_wp2_with (first | ((with_reducible show wpList _ _ _ (⟨_, .box 40 _, _, _, _, _⟩ :: _) _ _); refine wpList_box_blk rfl 40 _ rfl (kArr k) rfl ?_; intro wk hB hL hs; replace cur := cur.push hL hB (Nat.le_refl _) rfl; have hk1 := (cur.blk 0 rfl).cellK 1; clear hB hL hs) | ((with_reducible show wpList _ _ _ (⟨some 8, .alloc 43, _, _, _, _⟩ :: _) _ _); refine wpList_alloc_blk rfl 43 rfl (dArr Dc.d0) zero43 ?_; intro wr hB hL hs; have hler := cur.k.size; replace cur := cur.push hL hB (Nat.le_refl _) rfl; clear hB hL hs; have hk1 := (cur.blk 1 rfl).cellK 1))
  refine Ord.region (fun W => Has W ([(w.heap.size, kArr k, 40), (xb, #[.slice a l.length xc], 160)])) [9, 10, 12, 13] (by kernel_rfl) (cur.drew.has (by simp)) ?_
  intro hS
  replace cur := cur.drew
  refine Ord.tp 0 16 rfl rfl ?_
  refine Ord.tp 1 17 rfl rfl ?_
  refine Ord.tk 2 18 rfl rfl (yields_fld0 (by rfl) _ rfl xb rfl (fun W hSW => ⟨_, hSW.blk 1 rfl⟩)) ?_
  refine Ord.tk 3 19 rfl rfl (yields_ld105 (by rfl) _ rfl _ rfl) ?_
  refine Ord.tp 4 20 rfl rfl ?_
  refine Ord.tp 5 21 rfl rfl ?_
  refine Ord.tk 6 22 rfl rfl (yieldsIf_load_mid (by rfl) 40 _ rfl w.heap.size 0 rfl ([.string k.str, .int .i64 k.sym]) _ (fun W hSW => range_all (hSW.blk 0 rfl)) Tryz.underlying40 rfl Tryz.size40) ?_
  refine Ord.step (i := 7) rfl (by kernel_rfl) (by rfl) ?_
  intro K HK
  go_simp
  go_at_call 276
  refine (ordget_any cur.s k).mono ?_
  rintro e wY ⟨rfl, s9, k9⟩
  replace cur := cur.go s9 k9
  refine HK.out _ _ ?_
  clear HK
  refine Ord.kp ?_ ?_
  · exact cur.has (by simp)
  clear hS
  intro hS
  try simp only [List.setIfInBounds_toArray, List.set_cons_zero, List.set_cons_succ]
  refine Ord.tp 8 24 rfl rfl ?_
  refine Ord.tf 9 25 rfl rfl ?_
  refine Ord.tf 10 26 rfl rfl ?_
  refine Ord.step (i := 11) rfl (by kernel_rfl) (by rfl) ?_
  intro K HK
  refine store_blk_op 43 (.tmp 8) (.tmp 24) rfl _ (dArr ((getL L k).getD Dc.d0)) (dArr Dc.d0) 43 rfl rfl (cur.blk 0 rfl) Tryz.size43 rfl (dCells_one _) ?_
  intro wi hBi hOi
  replace cur := cur.set 0 rfl hOi hBi hler
  clear hBi hOi
  refine HK.out _ _ ?_
  clear HK
  refine ⟨Ord.np (by kernel_rfl), ?_⟩
  try simp only [List.setIfInBounds_toArray, List.set_cons_zero, List.set_cons_succ]
  refine Ord.tf 12 9 rfl rfl ?_
  refine Ord.tf 13 10 rfl rfl ?_
  refine Ord.done (by kernel_rfl) ?_ _
  clear hS
  go_wp2
  exact bodyPost_ret (results_cell_tmp2 Tryz.results282 rfl (cur.blk 0 rfl) Tryz.row43 Tryz.size43) rfl ⟨tp, rfl, cur.s, cur.k⟩


theorem ordhas_sym {n0 : Nat} {w : World} {hb : Nat} {ov : Value} {ob : Nat} {tp : Option Addr} {cap fuel deep : Int} {xb : Nat} {ext : Bool} {L : List (Ky × Ds)} (s : StX n0 w hb ov ob tp cap fuel deep (kN xb) ext L) {g xc : Nat} {a : Option Addr} {l : List Ex} (hX : XAt w xb g xc a l) (k : Ky) (hk : ¬ k.sym = 0) (hg : (getL L k).isSome = true) : Calls Tryz.prog 212 #[.agg #[], .pointer (some ⟨hb, 0, none⟩), .int .i64 1, .agg (kArr k)] w fun e w' => DidE (.tuple #[.bool true, .nilIface]) n0 w hb ov ob cap fuel deep (kN xb) ext L e w' := by
  have hm := xmGetOwnProperty xb
  have hmv : (kN xb).mv = .iface 157 (.pointer (some ⟨xb, 0, none⟩)) := rfl
  obtain ⟨d, hd⟩ : ∃ d, ((getL L k).getD Dc.d0) = d := ⟨_, rfl⟩
  obtain ⟨b, hb0⟩ : ∃ b, (getL L k).isSome = b := ⟨_, rfl⟩
  have HD := Lib.hid (And.intro hd hb0)
  rw [hb0] at hg
  have cur := Bag.start s
  clear s hd hb0
  go_enter Tryz.func212, Tryz.ntmps212
  go_wp2_with (first | ((with_reducible show wpList _ _ _ (⟨_, .box 105 _, _, _, _, _⟩ :: _) _ _); refine wpList_box_blk rfl 105 _ rfl #[] rfl ?_; intro w4 hB hL hs; replace cur := cur.push hL hB (Nat.le_refl _) rfl; clear hB hL hs) | ((with_reducible show wpList _ _ _ (⟨_, .box 40 _, _, _, _, _⟩ :: _) _ _); refine wpList_box_blk rfl 40 _ rfl (kArr k) rfl ?_; intro wk hB hL hs; replace cur := cur.push hL hB (Nat.le_refl _) rfl; clear hB hL hs))
  refine Ord.region (fun W => Has W ([(w4.heap.size, kArr k, 40)])) [9, 10, 13, 14] (by kernel_rfl) (cur.drew.has (by simp)) ?_
  intro hS
  replace cur := cur.drew
  refine Ord.tp 0 15 rfl rfl ?_
  refine Ord.tp 1 16 rfl rfl ?_
  refine Ord.tp 3 18 rfl rfl ?_
  refine Ord.tp 4 19 rfl rfl ?_
  refine Ord.tk 5 20 rfl rfl (yieldsIf_load_mid (by rfl) 40 _ rfl w4.heap.size 0 rfl ([.string k.str, .int .i64 k.sym]) _ (fun W hSW => range_all (hSW.blk 0 rfl)) Tryz.underlying40 rfl Tryz.size40) ?_
  refine Ord.two (i := 2) (j := 11) rfl rfl (by kernel_rfl) (by rfl) (by rfl) ?_ ?_
  · intro K HK
    go_simp
    go_at_call 108
    refine (does_any cur.s).mono ?_
    rintro e wX ⟨rfl, rfl⟩
    refine HK.out _ _ ?_
    clear HK
    refine Ord.kp ?_ ?_
    · exact cur.has (by simp)
    clear hS
    intro hS
    try simp only [List.setIfInBounds_toArray, List.set_cons_zero, List.set_cons_succ]
    refine Ord.two (i := 6) (j := 11) rfl rfl (by kernel_rfl) (by rfl) (by rfl) ?_ ?_
    · intro K HK
      go_simp
      go_at_call 282
      refine (nown_sym cur.s (hX.keeps cur.k) k hk).mono ?_
      rintro e wY ⟨tp2, rfl, s9, k9⟩
      rw [HD.out.1, HD.out.2]
      replace cur := cur.go s9 k9
      clear s9 k9
      refine HK.out _ _ ?_
      clear HK
      refine Ord.kp ?_ ?_
      · exact cur.has (by simp)
      clear hS
      intro hS
      try simp only [List.setIfInBounds_toArray, List.set_cons_zero, List.set_cons_succ]
      refine Ord.tp 7 14 rfl rfl ?_
      refine Ord.tp 8 22 rfl rfl ?_
      refine Ord.tf 9 23 rfl rfl ?_
      refine Ord.tf 10 24 rfl rfl ?_
      refine Ord.step (i := 11) rfl (by kernel_rfl) (by rfl) ?_
      intro K HK
      refine alloc_op 43 rfl (dArr Dc.d0) zero43 ?_
      intro wh bA hBA hbe hLA
      have hgeA : w.heap.size ≤ bA := by have := cur.k.size; omega
      replace cur := cur.push hLA hBA (Nat.le_of_eq hbe.symm) rfl
      clear hbe hLA hBA
      refine HK.out _ _ ?_
      clear HK
      refine Ord.kp ?_ ?_
      · exact cur.has (by simp)
      clear hS
      intro hS
      try simp only [List.setIfInBounds_toArray, List.set_cons_zero, List.set_cons_succ]
      refine Ord.step (i := 12) rfl (by kernel_rfl) (by rfl) ?_
      intro K HK
      refine store_blk_op 43 (.tmp 10) (.tmp 22) rfl bA (dArr d) (dArr Dc.d0) 43 rfl rfl (cur.blk 0 rfl) Tryz.size43 rfl (dCells_one _) ?_
      intro wi hBi hOi
      replace cur := cur.set 0 rfl hOi hBi hgeA
      clear hBi hOi
      refine HK.out _ _ ?_
      clear HK
      refine ⟨Ord.np (by kernel_rfl), ?_⟩
      try simp only [List.setIfInBounds_toArray, List.set_cons_zero, List.set_cons_succ]
      refine Ord.tf 13 11 rfl rfl ?_
      refine Ord.tf 14 12 rfl rfl ?_
      refine Ord.done (by kernel_rfl) ?_ _
      subst hg
      clear hS
      go_wp2
      go_ret2
      exact ⟨tp2, rfl, cur.s, cur.k⟩
    · intro K HK
      refine alloc_op 43 rfl (dArr Dc.d0) zero43 ?_
      intro wh bA hBA hbe hLA
      have hgeA : w.heap.size ≤ bA := by have := cur.k.size; omega
      replace cur := cur.push hLA hBA (Nat.le_of_eq hbe.symm) rfl
      clear hbe hLA hBA
      refine HK.out _ _ ?_
      clear HK
      refine Ord.kp ?_ ?_
      · exact cur.has (by simp)
      clear hS
      intro hS
      try simp only [List.setIfInBounds_toArray, List.set_cons_zero, List.set_cons_succ]
      refine Ord.step (i := 6) rfl (by kernel_rfl) (by rfl) ?_
      intro K HK
      go_simp
      go_at_call 282
      refine (nown_sym cur.s (hX.keeps cur.k) k hk).mono ?_
      rintro e wY ⟨tp2, rfl, s9, k9⟩
      rw [HD.out.1, HD.out.2]
      replace cur := cur.go s9 k9
      clear s9 k9
      refine HK.out _ _ ?_
      clear HK
      refine Ord.kp ?_ ?_
      · exact cur.has (by simp)
      clear hS
      intro hS
      try simp only [List.setIfInBounds_toArray, List.set_cons_zero, List.set_cons_succ]
      refine Ord.tp 7 14 rfl rfl ?_
      refine Ord.tp 8 22 rfl rfl ?_
      refine Ord.tf 9 23 rfl rfl ?_
      refine Ord.tf 10 24 rfl rfl ?_
      refine Ord.step (i := 12) rfl (by kernel_rfl) (by rfl) ?_
      intro K HK
      refine store_blk_op 43 (.tmp 10) (.tmp 22) rfl bA (dArr d) (dArr Dc.d0) 43 rfl rfl (cur.blk 0 rfl) Tryz.size43 rfl (dCells_one _) ?_
      intro wi hBi hOi
      replace cur := cur.set 0 rfl hOi hBi hgeA
      clear hBi hOi
      refine HK.out _ _ ?_
      clear HK
      refine ⟨Ord.np (by kernel_rfl), ?_⟩
      try simp only [List.setIfInBounds_toArray, List.set_cons_zero, List.set_cons_succ]
      refine Ord.tf 13 11 rfl rfl ?_
      refine Ord.tf 14 12 rfl rfl ?_
      refine Ord.done (by kernel_rfl) ?_ _
      subst hg
      clear hS
      go_wp2
      go_ret2
      exact ⟨tp2, rfl, cur.s, cur.k⟩
  · intro K HK
    refine alloc_op 43 rfl (dArr Dc.d0) zero43 ?_
    intro wh bA hBA hbe hLA
    have hgeA : w.heap.size ≤ bA := by have := cur.k.size; omega
    replace cur := cur.push hLA hBA (Nat.le_of_eq hbe.symm) rfl
    clear hbe hLA hBA
    refine HK.out _ _ ?_
    clear HK
    refine Ord.kp ?_ ?_
    · exact cur.has (by simp)
    clear hS
    intro hS
    try simp only [List.setIfInBounds_toArray, List.set_cons_zero, List.set_cons_succ]
    refine Ord.step (i := 2) rfl (by kernel_rfl) (by rfl) ?_
    intro K HK
    go_simp
    go_at_call 108
    refine (does_any cur.s).mono ?_
    rintro e wX ⟨rfl, rfl⟩
    refine HK.out _ _ ?_
    clear HK
    refine Ord.kp ?_ ?_
    · exact cur.has (by simp)
    clear hS
    intro hS
    try simp only [List.setIfInBounds_toArray, List.set_cons_zero, List.set_cons_succ]
    refine Ord.step (i := 6) rfl (by kernel_rfl) (by rfl) ?_
    intro K HK
    go_simp
    go_at_call 282
    refine (nown_sym cur.s (hX.keeps cur.k) k hk).mono ?_
    rintro e wY ⟨tp2, rfl, s9, k9⟩
    rw [HD.out.1, HD.out.2]
    replace cur := cur.go s9 k9
    clear s9 k9
    refine HK.out _ _ ?_
    clear HK
    refine Ord.kp ?_ ?_
    · exact cur.has (by simp)
    clear hS
    intro hS
    try simp only [List.setIfInBounds_toArray, List.set_cons_zero, List.set_cons_succ]
    refine Ord.tp 7 14 rfl rfl ?_
    refine Ord.tp 8 22 rfl rfl ?_
    refine Ord.tf 9 23 rfl rfl ?_
    refine Ord.tf 10 24 rfl rfl ?_
    refine Ord.step (i := 12) rfl (by kernel_rfl) (by rfl) ?_
    intro K HK
    refine store_blk_op 43 (.tmp 10) (.tmp 22) rfl bA (dArr d) (dArr Dc.d0) 43 rfl rfl (cur.blk 0 rfl) Tryz.size43 rfl (dCells_one _) ?_
    intro wi hBi hOi
    replace cur := cur.set 0 rfl hOi hBi hgeA
    clear hBi hOi
    refine HK.out _ _ ?_
    clear HK
    refine ⟨Ord.np (by kernel_rfl), ?_⟩
    try simp only [List.setIfInBounds_toArray, List.set_cons_zero, List.set_cons_succ]
    refine Ord.tf 13 11 rfl rfl ?_
    refine Ord.tf 14 12 rfl rfl ?_
    refine Ord.done (by kernel_rfl) ?_ _
    subst hg
    clear hS
    go_wp2
    go_ret2
    exact ⟨tp2, rfl, cur.s, cur.k⟩


theorem orddel_none {n0 : Nat} {w : World} {hb : Nat} {ov : Value} {ob : Nat} {tp : Option Addr} {cap fuel deep : Int} {xb : Nat} {ext : Bool} {L : List (Ky × Ds)} (s : StX n0 w hb ov ob tp cap fuel deep (kN xb) ext L) {g xc : Nat} {a : Option Addr} {l : List Ex} (hX : XAt w xb g xc a l) (k : Ky) (hk : ¬ k.sym = 0) (hg : (getL L k).isSome = false) : Calls Tryz.prog 208 #[.agg #[], .pointer (some ⟨hb, 0, none⟩), .int .i64 1, .agg (kArr k)] w fun e w' => DidE (.tuple #[.bool true, .nilIface]) n0 w hb ov ob cap fuel deep (kN xb) ext L e w' := by
  have hm := xmGetOwnProperty xb
  have hmv : (kN xb).mv = .iface 157 (.pointer (some ⟨xb, 0, none⟩)) := rfl
  obtain ⟨d, hd⟩ : ∃ d, ((getL L k).getD Dc.d0) = d := ⟨_, rfl⟩
  obtain ⟨b, hb0⟩ : ∃ b, (getL L k).isSome = b := ⟨_, rfl⟩
  have HD := Lib.hid (And.intro hd hb0)
  rw [hb0] at hg
  have cur := Bag.start s
  clear s hd hb0
  go_enter Tryz.func208, Tryz.ntmps208
  go_wp2_with (first | ((with_reducible show wpList _ _ _ (⟨_, .box 105 _, _, _, _, _⟩ :: _) _ _); refine wpList_box_blk rfl 105 _ rfl #[] rfl ?_; intro w4 hB hL hs; replace cur := cur.push hL hB (Nat.le_refl _) rfl; clear hB hL hs) | ((with_reducible show wpList _ _ _ (⟨_, .box 40 _, _, _, _, _⟩ :: _) _ _); refine wpList_box_blk rfl 40 _ rfl (kArr k) rfl ?_; intro wk hB hL hs; replace cur := cur.push hL hB (Nat.le_refl _) rfl; clear hB hL hs))
  refine Ord.region (fun W => Has W ([(w4.heap.size, kArr k, 40)])) [9, 10, 13, 14] (by kernel_rfl) (cur.drew.has (by simp)) ?_
  intro hS
  replace cur := cur.drew
  refine Ord.tp 0 14 rfl rfl ?_
  refine Ord.tp 1 15 rfl rfl ?_
  refine Ord.tp 3 17 rfl rfl ?_
  refine Ord.tp 4 18 rfl rfl ?_
  refine Ord.tk 5 19 rfl rfl (yieldsIf_load_mid (by rfl) 40 _ rfl w4.heap.size 0 rfl ([.string k.str, .int .i64 k.sym]) _ (fun W hSW => range_all (hSW.blk 0 rfl)) Tryz.underlying40 rfl Tryz.size40) ?_
  refine Ord.two (i := 2) (j := 11) rfl rfl (by kernel_rfl) (by rfl) (by rfl) ?_ ?_
  · intro K HK
    go_simp
    go_at_call 108
    refine (does_any cur.s).mono ?_
    rintro e wX ⟨rfl, rfl⟩
    refine HK.out _ _ ?_
    clear HK
    refine Ord.kp ?_ ?_
    · exact cur.has (by simp)
    clear hS
    intro hS
    try simp only [List.setIfInBounds_toArray, List.set_cons_zero, List.set_cons_succ]
    refine Ord.two (i := 6) (j := 11) rfl rfl (by kernel_rfl) (by rfl) (by rfl) ?_ ?_
    · intro K HK
      go_simp
      go_at_call 282
      refine (nown_sym cur.s (hX.keeps cur.k) k hk).mono ?_
      rintro e wY ⟨tp2, rfl, s9, k9⟩
      rw [HD.out.1, HD.out.2]
      replace cur := cur.go s9 k9
      clear s9 k9
      refine HK.out _ _ ?_
      clear HK
      refine Ord.kp ?_ ?_
      · exact cur.has (by simp)
      clear hS
      intro hS
      try simp only [List.setIfInBounds_toArray, List.set_cons_zero, List.set_cons_succ]
      refine Ord.tp 7 13 rfl rfl ?_
      refine Ord.tp 8 21 rfl rfl ?_
      refine Ord.tf 9 22 rfl rfl ?_
      refine Ord.tf 10 23 rfl rfl ?_
      refine Ord.step (i := 11) rfl (by kernel_rfl) (by rfl) ?_
      intro K HK
      refine alloc_op 43 rfl (dArr Dc.d0) zero43 ?_
      intro wh bA hBA hbe hLA
      have hgeA : w.heap.size ≤ bA := by have := cur.k.size; omega
      replace cur := cur.push hLA hBA (Nat.le_of_eq hbe.symm) rfl
      clear hbe hLA hBA
      refine HK.out _ _ ?_
      clear HK
      refine Ord.kp ?_ ?_
      · exact cur.has (by simp)
      clear hS
      intro hS
      try simp only [List.setIfInBounds_toArray, List.set_cons_zero, List.set_cons_succ]
      refine Ord.step (i := 12) rfl (by kernel_rfl) (by rfl) ?_
      intro K HK
      refine store_blk_op 43 (.tmp 10) (.tmp 21) rfl bA (dArr d) (dArr Dc.d0) 43 rfl rfl (cur.blk 0 rfl) Tryz.size43 rfl (dCells_one _) ?_
      intro wi hBi hOi
      replace cur := cur.set 0 rfl hOi hBi hgeA
      clear hBi hOi
      refine HK.out _ _ ?_
      clear HK
      refine ⟨Ord.np (by kernel_rfl), ?_⟩
      try simp only [List.setIfInBounds_toArray, List.set_cons_zero, List.set_cons_succ]
      refine Ord.tf 13 11 rfl rfl ?_
      refine Ord.tf 14 12 rfl rfl ?_
      refine Ord.done (by kernel_rfl) ?_ _
      subst hg
      clear hS
      go_wp2
      go_ret2
      exact ⟨tp2, rfl, cur.s, cur.k⟩
    · intro K HK
      refine alloc_op 43 rfl (dArr Dc.d0) zero43 ?_
      intro wh bA hBA hbe hLA
      have hgeA : w.heap.size ≤ bA := by have := cur.k.size; omega
      replace cur := cur.push hLA hBA (Nat.le_of_eq hbe.symm) rfl
      clear hbe hLA hBA
      refine HK.out _ _ ?_
      clear HK
      refine Ord.kp ?_ ?_
      · exact cur.has (by simp)
      clear hS
      intro hS
      try simp only [List.setIfInBounds_toArray, List.set_cons_zero, List.set_cons_succ]
      refine Ord.step (i := 6) rfl (by kernel_rfl) (by rfl) ?_
      intro K HK
      go_simp
      go_at_call 282
      refine (nown_sym cur.s (hX.keeps cur.k) k hk).mono ?_
      rintro e wY ⟨tp2, rfl, s9, k9⟩
      rw [HD.out.1, HD.out.2]
      replace cur := cur.go s9 k9
      clear s9 k9
      refine HK.out _ _ ?_
      clear HK
      refine Ord.kp ?_ ?_
      · exact cur.has (by simp)
      clear hS
      intro hS
      try simp only [List.setIfInBounds_toArray, List.set_cons_zero, List.set_cons_succ]
      refine Ord.tp 7 13 rfl rfl ?_
      refine Ord.tp 8 21 rfl rfl ?_
      refine Ord.tf 9 22 rfl rfl ?_
      refine Ord.tf 10 23 rfl rfl ?_
      refine Ord.step (i := 12) rfl (by kernel_rfl) (by rfl) ?_
      intro K HK
      refine store_blk_op 43 (.tmp 10) (.tmp 21) rfl bA (dArr d) (dArr Dc.d0) 43 rfl rfl (cur.blk 0 rfl) Tryz.size43 rfl (dCells_one _) ?_
      intro wi hBi hOi
      replace cur := cur.set 0 rfl hOi hBi hgeA
      clear hBi hOi
      refine HK.out _ _ ?_
      clear HK
      refine ⟨Ord.np (by kernel_rfl), ?_⟩
      try simp only [List.setIfInBounds_toArray, List.set_cons_zero, List.set_cons_succ]
      refine Ord.tf 13 11 rfl rfl ?_
      refine Ord.tf 14 12 rfl rfl ?_
      refine Ord.done (by kernel_rfl) ?_ _
      subst hg
      clear hS
      go_wp2
      go_ret2
      exact ⟨tp2, rfl, cur.s, cur.k⟩
  · intro K HK
    refine alloc_op 43 rfl (dArr Dc.d0) zero43 ?_
    intro wh bA hBA hbe hLA
    have hgeA : w.heap.size ≤ bA := by have := cur.k.size; omega
    replace cur := cur.push hLA hBA (Nat.le_of_eq hbe.symm) rfl
    clear hbe hLA hBA
    refine HK.out _ _ ?_
    clear HK
    refine Ord.kp ?_ ?_
    · exact cur.has (by simp)
    clear hS
    intro hS
    try simp only [List.setIfInBounds_toArray, List.set_cons_zero, List.set_cons_succ]
    refine Ord.step (i := 2) rfl (by kernel_rfl) (by rfl) ?_
    intro K HK
    go_simp
    go_at_call 108
    refine (does_any cur.s).mono ?_
    rintro e wX ⟨rfl, rfl⟩
    refine HK.out _ _ ?_
    clear HK
    refine Ord.kp ?_ ?_
    · exact cur.has (by simp)
    clear hS
    intro hS
    try simp only [List.setIfInBounds_toArray, List.set_cons_zero, List.set_cons_succ]
    refine Ord.step (i := 6) rfl (by kernel_rfl) (by rfl) ?_
    intro K HK
    go_simp
    go_at_call 282
    refine (nown_sym cur.s (hX.keeps cur.k) k hk).mono ?_
    rintro e wY ⟨tp2, rfl, s9, k9⟩
    rw [HD.out.1, HD.out.2]
    replace cur := cur.go s9 k9
    clear s9 k9
    refine HK.out _ _ ?_
    clear HK
    refine Ord.kp ?_ ?_
    · exact cur.has (by simp)
    clear hS
    intro hS
    try simp only [List.setIfInBounds_toArray, List.set_cons_zero, List.set_cons_succ]
    refine Ord.tp 7 13 rfl rfl ?_
    refine Ord.tp 8 21 rfl rfl ?_
    refine Ord.tf 9 22 rfl rfl ?_
    refine Ord.tf 10 23 rfl rfl ?_
    refine Ord.step (i := 12) rfl (by kernel_rfl) (by rfl) ?_
    intro K HK
    refine store_blk_op 43 (.tmp 10) (.tmp 21) rfl bA (dArr d) (dArr Dc.d0) 43 rfl rfl (cur.blk 0 rfl) Tryz.size43 rfl (dCells_one _) ?_
    intro wi hBi hOi
    replace cur := cur.set 0 rfl hOi hBi hgeA
    clear hBi hOi
    refine HK.out _ _ ?_
    clear HK
    refine ⟨Ord.np (by kernel_rfl), ?_⟩
    try simp only [List.setIfInBounds_toArray, List.set_cons_zero, List.set_cons_succ]
    refine Ord.tf 13 11 rfl rfl ?_
    refine Ord.tf 14 12 rfl rfl ?_
    refine Ord.done (by kernel_rfl) ?_ _
    subst hg
    clear hS
    go_wp2
    go_ret2
    exact ⟨tp2, rfl, cur.s, cur.k⟩


theorem orddel_some {n0 : Nat} {w : World} {hb : Nat} {ov : Value} {ob : Nat} {tp : Option Addr} {cap fuel deep : Int} {xb : Nat} {ext : Bool} {L : List (Ky × Ds)} (s : StX n0 w hb ov ob tp cap fuel deep (kN xb) ext L) {g xc : Nat} {a : Option Addr} {l : List Ex} (hX : XAt w xb g xc a l) (k : Ky) (hk : ¬ k.sym = 0) (hg : (getL L k).isSome = true ∧ ((getL L k).getD Dc.d0).c = 1) : Calls Tryz.prog 208 #[.agg #[], .pointer (some ⟨hb, 0, none⟩), .int .i64 1, .agg (kArr k)] w fun e w' => DidE (.tuple #[.bool false, .nilIface]) n0 w hb ov ob cap fuel deep (kN xb) ext L e w' := by
  have hm := xmGetOwnProperty xb
  have hmv : (kN xb).mv = .iface 157 (.pointer (some ⟨xb, 0, none⟩)) := rfl
  obtain ⟨d, hd⟩ : ∃ d, ((getL L k).getD Dc.d0) = d := ⟨_, rfl⟩
  obtain ⟨b, hb0⟩ : ∃ b, (getL L k).isSome = b := ⟨_, rfl⟩
  have HD := Lib.hid (And.intro hd hb0)
  rw [hd] at hg
  rw [hb0] at hg
  have cur := Bag.start s
  clear s hd hb0
  go_enter Tryz.func208, Tryz.ntmps208
  go_wp2_with (first | ((with_reducible show wpList _ _ _ (⟨_, .box 105 _, _, _, _, _⟩ :: _) _ _); refine wpList_box_blk rfl 105 _ rfl #[] rfl ?_; intro w4 hB hL hs; replace cur := cur.push hL hB (Nat.le_refl _) rfl; clear hB hL hs) | ((with_reducible show wpList _ _ _ (⟨_, .box 40 _, _, _, _, _⟩ :: _) _ _); refine wpList_box_blk rfl 40 _ rfl (kArr k) rfl ?_; intro wk hB hL hs; replace cur := cur.push hL hB (Nat.le_refl _) rfl; clear hB hL hs))
  refine Ord.region (fun W => Has W ([(w4.heap.size, kArr k, 40)])) [9, 10, 13, 14] (by kernel_rfl) (cur.drew.has (by simp)) ?_
  intro hS
  replace cur := cur.drew
  refine Ord.tp 0 14 rfl rfl ?_
  refine Ord.tp 1 15 rfl rfl ?_
  refine Ord.tp 3 17 rfl rfl ?_
  refine Ord.tp 4 18 rfl rfl ?_
  refine Ord.tk 5 19 rfl rfl (yieldsIf_load_mid (by rfl) 40 _ rfl w4.heap.size 0 rfl ([.string k.str, .int .i64 k.sym]) _ (fun W hSW => range_all (hSW.blk 0 rfl)) Tryz.underlying40 rfl Tryz.size40) ?_
  refine Ord.two (i := 2) (j := 11) rfl rfl (by kernel_rfl) (by rfl) (by rfl) ?_ ?_
  · intro K HK
    go_simp
    go_at_call 108
    refine (does_any cur.s).mono ?_
    rintro e wX ⟨rfl, rfl⟩
    refine HK.out _ _ ?_
    clear HK
    refine Ord.kp ?_ ?_
    · exact cur.has (by simp)
    clear hS
    intro hS
    try simp only [List.setIfInBounds_toArray, List.set_cons_zero, List.set_cons_succ]
    refine Ord.two (i := 6) (j := 11) rfl rfl (by kernel_rfl) (by rfl) (by rfl) ?_ ?_
    · intro K HK
      go_simp
      go_at_call 282
      refine (nown_sym cur.s (hX.keeps cur.k) k hk).mono ?_
      rintro e wY ⟨tp2, rfl, s9, k9⟩
      rw [HD.out.1, HD.out.2]
      replace cur := cur.go s9 k9
      clear s9 k9
      refine HK.out _ _ ?_
      clear HK
      refine Ord.kp ?_ ?_
      · exact cur.has (by simp)
      clear hS
      intro hS
      try simp only [List.setIfInBounds_toArray, List.set_cons_zero, List.set_cons_succ]
      refine Ord.tp 7 13 rfl rfl ?_
      refine Ord.tp 8 21 rfl rfl ?_
      refine Ord.tf 9 22 rfl rfl ?_
      refine Ord.tf 10 23 rfl rfl ?_
      refine Ord.step (i := 11) rfl (by kernel_rfl) (by rfl) ?_
      intro K HK
      refine alloc_op 43 rfl (dArr Dc.d0) zero43 ?_
      intro wh bA hBA hbe hLA
      have hgeA : w.heap.size ≤ bA := by have := cur.k.size; omega
      replace cur := cur.push hLA hBA (Nat.le_of_eq hbe.symm) rfl
      clear hbe hLA hBA
      refine HK.out _ _ ?_
      clear HK
      refine Ord.kp ?_ ?_
      · exact cur.has (by simp)
      clear hS
      intro hS
      try simp only [List.setIfInBounds_toArray, List.set_cons_zero, List.set_cons_succ]
      refine Ord.step (i := 12) rfl (by kernel_rfl) (by rfl) ?_
      intro K HK
      refine store_blk_op 43 (.tmp 10) (.tmp 21) rfl bA (dArr d) (dArr Dc.d0) 43 rfl rfl (cur.blk 0 rfl) Tryz.size43 rfl (dCells_one _) ?_
      intro wi hBi hOi
      replace cur := cur.set 0 rfl hOi hBi hgeA
      clear hBi hOi
      refine HK.out _ _ ?_
      clear HK
      refine ⟨Ord.np (by kernel_rfl), ?_⟩
      try simp only [List.setIfInBounds_toArray, List.set_cons_zero, List.set_cons_succ]
      refine Ord.tf 13 11 rfl rfl ?_
      refine Ord.tf 14 12 rfl rfl ?_
      refine Ord.done (by kernel_rfl) ?_ _
      obtain ⟨rfl, hc⟩ := hg
      have hcc : _ = some (Value.int .i64 d.c) := (cur.blk 0 rfl).cell 17
      rw [hc] at hcc
      clear hS
      go_wp2
      go_ret2
      exact ⟨tp2, rfl, cur.s, cur.k⟩
    · intro K HK
      refine alloc_op 43 rfl (dArr Dc.d0) zero43 ?_
      intro wh bA hBA hbe hLA
      have hgeA : w.heap.size ≤ bA := by have := cur.k.size; omega
      replace cur := cur.push hLA hBA (Nat.le_of_eq hbe.symm) rfl
      clear hbe hLA hBA
      refine HK.out _ _ ?_
      clear HK
      refine Ord.kp ?_ ?_
      · exact cur.has (by simp)
      clear hS
      intro hS
      try simp only [List.setIfInBounds_toArray, List.set_cons_zero, List.set_cons_succ]
      refine Ord.step (i := 6) rfl (by kernel_rfl) (by rfl) ?_
      intro K HK
      go_simp
      go_at_call 282
      refine (nown_sym cur.s (hX.keeps cur.k) k hk).mono ?_
      rintro e wY ⟨tp2, rfl, s9, k9⟩
      rw [HD.out.1, HD.out.2]
      replace cur := cur.go s9 k9
      clear s9 k9
      refine HK.out _ _ ?_
      clear HK
      refine Ord.kp ?_ ?_
      · exact cur.has (by simp)
      clear hS
      intro hS
      try simp only [List.setIfInBounds_toArray, List.set_cons_zero, List.set_cons_succ]
      refine Ord.tp 7 13 rfl rfl ?_
      refine Ord.tp 8 21 rfl rfl ?_
      refine Ord.tf 9 22 rfl rfl ?_
      refine Ord.tf 10 23 rfl rfl ?_
      refine Ord.step (i := 12) rfl (by kernel_rfl) (by rfl) ?_
      intro K HK
      refine store_blk_op 43 (.tmp 10) (.tmp 21) rfl bA (dArr d) (dArr Dc.d0) 43 rfl rfl (cur.blk 0 rfl) Tryz.size43 rfl (dCells_one _) ?_
      intro wi hBi hOi
      replace cur := cur.set 0 rfl hOi hBi hgeA
      clear hBi hOi
      refine HK.out _ _ ?_
      clear HK
      refine ⟨Ord.np (by kernel_rfl), ?_⟩
      try simp only [List.setIfInBounds_toArray, List.set_cons_zero, List.set_cons_succ]
      refine Ord.tf 13 11 rfl rfl ?_
      refine Ord.tf 14 12 rfl rfl ?_
      refine Ord.done (by kernel_rfl) ?_ _
      obtain ⟨rfl, hc⟩ := hg
      have hcc : _ = some (Value.int .i64 d.c) := (cur.blk 0 rfl).cell 17
      rw [hc] at hcc
      clear hS
      go_wp2
      go_ret2
      exact ⟨tp2, rfl, cur.s, cur.k⟩
  · intro K HK
    refine alloc_op 43 rfl (dArr Dc.d0) zero43 ?_
    intro wh bA hBA hbe hLA
    have hgeA : w.heap.size ≤ bA := by have := cur.k.size; omega
    replace cur := cur.push hLA hBA (Nat.le_of_eq hbe.symm) rfl
    clear hbe hLA hBA
    refine HK.out _ _ ?_
    clear HK
    refine Ord.kp ?_ ?_
    · exact cur.has (by simp)
    clear hS
    intro hS
    try simp only [List.setIfInBounds_toArray, List.set_cons_zero, List.set_cons_succ]
    refine Ord.step (i := 2) rfl (by kernel_rfl) (by rfl) ?_
    intro K HK
    go_simp
    go_at_call 108
    refine (does_any cur.s).mono ?_
    rintro e wX ⟨rfl, rfl⟩
    refine HK.out _ _ ?_
    clear HK
    refine Ord.kp ?_ ?_
    · exact cur.has (by simp)
    clear hS
    intro hS
    try simp only [List.setIfInBounds_toArray, List.set_cons_zero, List.set_cons_succ]
    refine Ord.step (i := 6) rfl (by kernel_rfl) (by rfl) ?_
    intro K HK
    go_simp
    go_at_call 282
    refine (nown_sym cur.s (hX.keeps cur.k) k hk).mono ?_
    rintro e wY ⟨tp2, rfl, s9, k9⟩
    rw [HD.out.1, HD.out.2]
    replace cur := cur.go s9 k9
    clear s9 k9
    refine HK.out _ _ ?_
    clear HK
    refine Ord.kp ?_ ?_
    · exact cur.has (by simp)
    clear hS
    intro hS
    try simp only [List.setIfInBounds_toArray, List.set_cons_zero, List.set_cons_succ]
    refine Ord.tp 7 13 rfl rfl ?_
    refine Ord.tp 8 21 rfl rfl ?_
    refine Ord.tf 9 22 rfl rfl ?_
    refine Ord.tf 10 23 rfl rfl ?_
    refine Ord.step (i := 12) rfl (by kernel_rfl) (by rfl) ?_
    intro K HK
    refine store_blk_op 43 (.tmp 10) (.tmp 21) rfl bA (dArr d) (dArr Dc.d0) 43 rfl rfl (cur.blk 0 rfl) Tryz.size43 rfl (dCells_one _) ?_
    intro wi hBi hOi
    replace cur := cur.set 0 rfl hOi hBi hgeA
    clear hBi hOi
    refine HK.out _ _ ?_
    clear HK
    refine ⟨Ord.np (by kernel_rfl), ?_⟩
    try simp only [List.setIfInBounds_toArray, List.set_cons_zero, List.set_cons_succ]
    refine Ord.tf 13 11 rfl rfl ?_
    refine Ord.tf 14 12 rfl rfl ?_
    refine Ord.done (by kernel_rfl) ?_ _
    obtain ⟨rfl, hc⟩ := hg
    have hcc : _ = some (Value.int .i64 d.c) := (cur.blk 0 rfl).cell 17
    rw [hc] at hcc
    clear hS
    go_wp2
    go_ret2
    exact ⟨tp2, rfl, cur.s, cur.k⟩



end Go.Proofs.YtoalboilghgalaaGreatDoor

/- A namespace's HasProperty, Delete, DefineOwnProperty of a symbol. -/
namespace Go.Proofs.YtoalboilghgalaaGreatDoor
open Go.RowKit
open Go.Proofs.Dc (V Ds Ky)
attribute [local go_sem] run_store_float

theorem nhas_sym {n0 : Nat} {w : World} {hb : Nat} {ov : Value} {ob : Nat} {tp : Option Addr} {cap fuel deep : Int} {xb : Nat} {ext : Bool} {L : List (Ky × Ds)} (s : StX n0 w hb ov ob tp cap fuel deep (kN xb) ext L) {g xc : Nat} {a : Option Addr} {l : List Ex} (hX : XAt w xb g xc a l) (k : Ky) (hk : ¬ k.sym = 0) (hg : (getL L k).isSome = true) : Calls Tryz.prog 283 #[.pointer (some ⟨xb, 0, none⟩), .pointer (some ⟨hb, 0, none⟩), .int .i64 1, .agg (kArr k)] w fun e w' => DidE (.tuple #[.bool true, .nilIface]) n0 w hb ov ob cap fuel deep (kN xb) ext L e w' := by
  have cur := (Bag.start s).have hX.blk rfl (by simp)
  have HG := Lib.hid hg
  clear s hg
  go_enter Tryz.func283, Tryz.ntmps283
  go_wp2_with (((with_reducible show wpList _ _ _ (⟨_, .box 40 _, _, _, _, _⟩ :: _) _ _); refine wpList_box_blk rfl 40 _ rfl (kArr k) rfl ?_; intro wk hB hL hs; replace cur := cur.push hL hB (Nat.le_refl _) rfl; have hk1 := (cur.blk 0 rfl).cellK 1; clear hB hL hs))
  refine Ord.region (fun W => Has W ([(w.heap.size, kArr k, 40), (xb, #[.slice a l.length xc], 160)])) [8, 9, 10, 11] (by kernel_rfl) (cur.drew.has (by simp)) ?_
  intro hS
  replace cur := cur.drew
  refine Ord.tp 0 13 rfl rfl ?_
  refine Ord.tp 1 14 rfl rfl ?_
  refine Ord.tk 2 15 rfl rfl (yields_fld0 (by rfl) _ rfl xb rfl (fun W hSW => ⟨_, hSW.blk 1 rfl⟩)) ?_
  refine Ord.tk 3 16 rfl rfl (yields_ld105 (by rfl) _ rfl _ rfl) ?_
  refine Ord.tp 4 17 rfl rfl ?_
  refine Ord.tp 5 18 rfl rfl ?_
  refine Ord.tk 6 19 rfl rfl (yieldsIf_load_mid (by rfl) 40 _ rfl w.heap.size 0 rfl ([.string k.str, .int .i64 k.sym]) _ (fun W hSW => range_all (hSW.blk 0 rfl)) Tryz.underlying40 rfl Tryz.size40) ?_
  refine Ord.step (i := 7) rfl (by kernel_rfl) (by rfl) ?_
  intro K HK
  go_simp
  go_at_call 212
  refine (ordhas_sym cur.s (hX.keeps cur.k) k hk HG.out).mono ?_
  rintro e wY ⟨tp2, rfl, s9, k9⟩
  replace cur := cur.go s9 k9
  clear s9 k9
  refine HK.out _ _ ?_
  clear HK
  refine ⟨Ord.np (by kernel_rfl), ?_⟩
  try simp only [List.setIfInBounds_toArray, List.set_cons_zero, List.set_cons_succ]
  refine Ord.tf 8 21 rfl rfl ?_
  refine Ord.tf 9 22 rfl rfl ?_
  refine Ord.tf 10 8 rfl rfl ?_
  refine Ord.tf 11 9 rfl rfl ?_
  refine Ord.done (by kernel_rfl) ?_ _
  clear hS
  go_wp2
  go_ret2
  exact ⟨tp2, rfl, cur.s, cur.k⟩


theorem ndel_symn {n0 : Nat} {w : World} {hb : Nat} {ov : Value} {ob : Nat} {tp : Option Addr} {cap fuel deep : Int} {xb : Nat} {ext : Bool} {L : List (Ky × Ds)} (s : StX n0 w hb ov ob tp cap fuel deep (kN xb) ext L) {g xc : Nat} {a : Option Addr} {l : List Ex} (hX : XAt w xb g xc a l) (k : Ky) (hk : ¬ k.sym = 0) (hg : (getL L k).isSome = false) : Calls Tryz.prog 280 #[.pointer (some ⟨xb, 0, none⟩), .pointer (some ⟨hb, 0, none⟩), .int .i64 1, .agg (kArr k)] w fun e w' => DidE (.tuple #[.bool true, .nilIface]) n0 w hb ov ob cap fuel deep (kN xb) ext L e w' := by
  have cur := (Bag.start s).have hX.blk rfl (by simp)
  have HG := Lib.hid hg
  clear s hg
  go_enter Tryz.func280, Tryz.ntmps280
  go_wp2_with (((with_reducible show wpList _ _ _ (⟨_, .box 40 _, _, _, _, _⟩ :: _) _ _); refine wpList_box_blk rfl 40 _ rfl (kArr k) rfl ?_; intro wk hB hL hs; replace cur := cur.push hL hB (Nat.le_refl _) rfl; have hk1 := (cur.blk 0 rfl).cellK 1; clear hB hL hs))
  refine Ord.region (fun W => Has W ([(w.heap.size, kArr k, 40), (xb, #[.slice a l.length xc], 160)])) [8, 9, 10, 11] (by kernel_rfl) (cur.drew.has (by simp)) ?_
  intro hS
  replace cur := cur.drew
  refine Ord.tp 0 13 rfl rfl ?_
  refine Ord.tp 1 14 rfl rfl ?_
  refine Ord.tk 2 15 rfl rfl (yields_fld0 (by rfl) _ rfl xb rfl (fun W hSW => ⟨_, hSW.blk 1 rfl⟩)) ?_
  refine Ord.tk 3 16 rfl rfl (yields_ld105 (by rfl) _ rfl _ rfl) ?_
  refine Ord.tp 4 17 rfl rfl ?_
  refine Ord.tp 5 18 rfl rfl ?_
  refine Ord.tk 6 19 rfl rfl (yieldsIf_load_mid (by rfl) 40 _ rfl w.heap.size 0 rfl ([.string k.str, .int .i64 k.sym]) _ (fun W hSW => range_all (hSW.blk 0 rfl)) Tryz.underlying40 rfl Tryz.size40) ?_
  refine Ord.step (i := 7) rfl (by kernel_rfl) (by rfl) ?_
  intro K HK
  go_simp
  go_at_call 208
  refine (orddel_none cur.s (hX.keeps cur.k) k hk HG.out).mono ?_
  rintro e wY ⟨tp2, rfl, s9, k9⟩
  replace cur := cur.go s9 k9
  clear s9 k9
  refine HK.out _ _ ?_
  clear HK
  refine ⟨Ord.np (by kernel_rfl), ?_⟩
  try simp only [List.setIfInBounds_toArray, List.set_cons_zero, List.set_cons_succ]
  refine Ord.tf 8 21 rfl rfl ?_
  refine Ord.tf 9 22 rfl rfl ?_
  refine Ord.tf 10 8 rfl rfl ?_
  refine Ord.tf 11 9 rfl rfl ?_
  refine Ord.done (by kernel_rfl) ?_ _
  clear hS
  go_wp2
  go_ret2
  exact ⟨tp2, rfl, cur.s, cur.k⟩


theorem ndel_syms {n0 : Nat} {w : World} {hb : Nat} {ov : Value} {ob : Nat} {tp : Option Addr} {cap fuel deep : Int} {xb : Nat} {ext : Bool} {L : List (Ky × Ds)} (s : StX n0 w hb ov ob tp cap fuel deep (kN xb) ext L) {g xc : Nat} {a : Option Addr} {l : List Ex} (hX : XAt w xb g xc a l) (k : Ky) (hk : ¬ k.sym = 0) (hg : (getL L k).isSome = true ∧ ((getL L k).getD Dc.d0).c = 1) : Calls Tryz.prog 280 #[.pointer (some ⟨xb, 0, none⟩), .pointer (some ⟨hb, 0, none⟩), .int .i64 1, .agg (kArr k)] w fun e w' => DidE (.tuple #[.bool false, .nilIface]) n0 w hb ov ob cap fuel deep (kN xb) ext L e w' := by
  have cur := (Bag.start s).have hX.blk rfl (by simp)
  have HG := Lib.hid hg
  clear s hg
  go_enter Tryz.func280, Tryz.ntmps280
  go_wp2_with (((with_reducible show wpList _ _ _ (⟨_, .box 40 _, _, _, _, _⟩ :: _) _ _); refine wpList_box_blk rfl 40 _ rfl (kArr k) rfl ?_; intro wk hB hL hs; replace cur := cur.push hL hB (Nat.le_refl _) rfl; have hk1 := (cur.blk 0 rfl).cellK 1; clear hB hL hs))
  refine Ord.region (fun W => Has W ([(w.heap.size, kArr k, 40), (xb, #[.slice a l.length xc], 160)])) [8, 9, 10, 11] (by kernel_rfl) (cur.drew.has (by simp)) ?_
  intro hS
  replace cur := cur.drew
  refine Ord.tp 0 13 rfl rfl ?_
  refine Ord.tp 1 14 rfl rfl ?_
  refine Ord.tk 2 15 rfl rfl (yields_fld0 (by rfl) _ rfl xb rfl (fun W hSW => ⟨_, hSW.blk 1 rfl⟩)) ?_
  refine Ord.tk 3 16 rfl rfl (yields_ld105 (by rfl) _ rfl _ rfl) ?_
  refine Ord.tp 4 17 rfl rfl ?_
  refine Ord.tp 5 18 rfl rfl ?_
  refine Ord.tk 6 19 rfl rfl (yieldsIf_load_mid (by rfl) 40 _ rfl w.heap.size 0 rfl ([.string k.str, .int .i64 k.sym]) _ (fun W hSW => range_all (hSW.blk 0 rfl)) Tryz.underlying40 rfl Tryz.size40) ?_
  refine Ord.step (i := 7) rfl (by kernel_rfl) (by rfl) ?_
  intro K HK
  go_simp
  go_at_call 208
  refine (orddel_some cur.s (hX.keeps cur.k) k hk HG.out).mono ?_
  rintro e wY ⟨tp2, rfl, s9, k9⟩
  replace cur := cur.go s9 k9
  clear s9 k9
  refine HK.out _ _ ?_
  clear HK
  refine ⟨Ord.np (by kernel_rfl), ?_⟩
  try simp only [List.setIfInBounds_toArray, List.set_cons_zero, List.set_cons_succ]
  refine Ord.tf 8 21 rfl rfl ?_
  refine Ord.tf 9 22 rfl rfl ?_
  refine Ord.tf 10 8 rfl rfl ?_
  refine Ord.tf 11 9 rfl rfl ?_
  refine Ord.done (by kernel_rfl) ?_ _
  clear hS
  go_wp2
  go_ret2
  exact ⟨tp2, rfl, cur.s, cur.k⟩


theorem ndef_sym {n0 : Nat} {w : World} {hb : Nat} {ov : Value} {ob : Nat} {tp : Option Addr} {cap fuel deep : Int} {xb : Nat} {ext : Bool} {L : List (Ky × Ds)} (s : StX n0 w hb ov ob tp cap fuel deep (kN xb) ext L) {g xc : Nat} {a : Option Addr} {l : List Ex} (hX : XAt w xb g xc a l) (k : Ky) (hk : ¬ k.sym = 0) (d : Ds) (hg : kgood k = true) (hlen : L.length < 1000000) (hd : Nums d) (hkd : Dc.kindB uvalid d = true) (hn : LNums L) (hl : LOk L) : Calls Tryz.prog 279 #[.pointer (some ⟨xb, 0, none⟩), .pointer (some ⟨hb, 0, none⟩), .int .i64 1, .agg (kArr k), .agg (dArr d)] w fun e w' => DidE (.tuple #[.bool (defB ext L k d), .nilIface]) n0 w hb ov ob cap fuel deep (kN xb) ext (defL ext L k d) e w' := by
  have cur := (Bag.start s).have hX.blk rfl (by simp)
  clear s
  go_enter Tryz.func279, Tryz.ntmps279
  go_wp2_with (first | ((with_reducible show wpList _ _ _ (⟨_, .box 40 _, _, _, _, _⟩ :: _) _ _); refine wpList_box_blk rfl 40 _ rfl (kArr k) rfl ?_; intro wk hB hL hs; replace cur := cur.push hL hB (Nat.le_refl _) rfl; have hk1 := (cur.blk 0 rfl).cellK 1; clear hB hL hs) | ((with_reducible show wpList _ _ _ (⟨_, .box 43 _, _, _, _, _⟩ :: _) _ _); refine wpList_box_blk rfl 43 _ rfl (dArr d) rfl ?_; intro wd hB hL hs; replace cur := cur.push hL hB (Nat.le_refl _) rfl; clear hB hL hs; have hk1 := (cur.blk 1 rfl).cellK 1))
  refine Ord.region (fun W => Has W ([(wk.heap.size, dArr d, 43), (w.heap.size, kArr k, 40), (xb, #[.slice a l.length xc], 160)])) [9, 10, 11, 12] (by kernel_rfl) (cur.drew.has (by simp)) ?_
  intro hS
  replace cur := cur.drew
  refine Ord.tp 0 21 rfl rfl ?_
  refine Ord.tp 1 22 rfl rfl ?_
  refine Ord.tk 2 23 rfl rfl (yields_fld0 (by rfl) _ rfl xb rfl (fun W hSW => ⟨_, hSW.blk 2 rfl⟩)) ?_
  refine Ord.tk 3 24 rfl rfl (yields_ld105 (by rfl) _ rfl _ rfl) ?_
  refine Ord.tp 4 25 rfl rfl ?_
  refine Ord.tp 5 26 rfl rfl ?_
  refine Ord.tk 6 27 rfl rfl (yieldsIf_load_mid (by rfl) 40 _ rfl w.heap.size 0 rfl ([.string k.str, .int .i64 k.sym]) _ (fun W hSW => range_all (hSW.blk 1 rfl)) Tryz.underlying40 rfl Tryz.size40) ?_
  refine Ord.tk 7 28 rfl rfl (yieldsIf_load_mid (by rfl) 43 _ rfl wk.heap.size 0 rfl ([.int .i64 d.val.kind, .bool d.val.bool, .float .f64 d.val.num, .string d.val.str, .int .i64 d.val.id, .int .i64 d.get.kind, .bool d.get.bool, .float .f64 d.get.num, .string d.get.str, .int .i64 d.get.id, .int .i64 d.set.kind, .bool d.set.bool, .float .f64 d.set.num, .string d.set.str, .int .i64 d.set.id, .int .i64 d.w, .int .i64 d.e, .int .i64 d.c]) _ (fun W hSW => range_all (hSW.blk 0 rfl)) Tryz.underlying43 rfl Tryz.size43) ?_
  refine Ord.step (i := 8) rfl (by kernel_rfl) (by rfl) ?_
  intro K HK
  go_simp
  go_at_call 219
  refine (orddef_any cur.s k d hg hlen hd hkd hn hl).mono ?_
  rintro e wY ⟨rfl, tp2, s9, k9⟩
  replace cur := cur.go s9 k9
  clear s9 k9
  refine HK.out _ _ ?_
  clear HK
  refine ⟨Ord.np (by kernel_rfl), ?_⟩
  try simp only [List.setIfInBounds_toArray, List.set_cons_zero, List.set_cons_succ]
  refine Ord.tf 9 30 rfl rfl ?_
  refine Ord.tf 10 31 rfl rfl ?_
  refine Ord.tf 11 10 rfl rfl ?_
  refine Ord.tf 12 11 rfl rfl ?_
  refine Ord.done (by kernel_rfl) ?_ _
  clear hS
  go_wp2
  go_ret2
  exact ⟨tp2, rfl, cur.s, cur.k⟩



end Go.Proofs.YtoalboilghgalaaGreatDoor
