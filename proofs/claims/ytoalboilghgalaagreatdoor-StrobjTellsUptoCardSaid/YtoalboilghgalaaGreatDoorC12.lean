/- Lemmas for this claim, in parts: Key, Door. -/
import Derived.Test.YtoalboilghgalaaGreatDoorC11
import Derived.Defers
import Derived.BigRegion
import Derived.Shelf.Abstract
set_option maxRecDepth 100000
set_option maxHeartbeats 4000000
set_option linter.unusedVariables false
set_option linter.unusedSimpArgs false
/- key.Check; the door: Spend, enter, leave. -/
namespace Go.Proofs.YtoalboilghgalaaGreatDoor
open Go.RowKit
open Go.Proofs.Dc (V Ds Ky)
attribute [local go_sem] run_store_float

theorem ret_i {a b : Int} (h : a = b) : Ending.returned (.int .i64 a) = .returned (.int .i64 b) := by rw [h]
/-- key.Check says that it is well formed -/
def kgood (k : Ky) : Bool := (k.sym == 0 && (decide (k.str.size ≤ 1048576) && uvalid k.str)) || (decide (1 ≤ k.sym ∧ k.sym ≤ 65536) && Dc.isE k.str)

def kArr (k : Ky) : Array Value := #[.string k.str, .int .i64 k.sym]
theorem Blk.cellK {W : World} {b : Nat} {k : Ky} (h : Blk W b (kArr k) 40) : ∀ j, W.cell? ⟨b, j, none⟩ = #[.string k.str, .int .i64 k.sym][j]? := h.cell
theorem Tryz.row40 : ∃ d, Tryz.prog.underlying 40 = some d ∧ d.isRow = true := ⟨_, Tryz.underlying40, rfl⟩
theorem Tryz.size40 : (Tryz.prog.info? 40).map (·.size) = some 2 := by kernel_rfl

theorem keycheck_any (k : Ky) (w : World) (hT : Tabs w) : Calls Tryz.prog 13 #[.agg (kArr k)] w fun e w' => e = .returned (.int .i64 (if kgood k then 0 else 5)) ∧ Below w.heap.size w w' := by
  by_cases h0 : k.sym = 0
  · by_cases hs : k.str.size ≤ 1048576
    · have hs' : (k.str.size : Int) ≤ 1048576 := by omega
      have cV := fun W (h : Below w.heap.size w W) => valid_any k.str W (hT.below h) (by omega)
      have hr : kgood k = uvalid k.str := by simp [kgood, h0, hs]
      rw [hr]
      have b0 : (k.sym == 0) = true := by simpa using h0
      have b1 : ¬ (1 : Int) ≤ k.sym := by omega
      clear hr hs h0 hT
      generalize uvalid k.str = R at *
      cases R
      all_goals
        go_enter Tryz.func13, Tryz.ntmps13
        go_wp2_with (first | ((with_reducible show wpList _ _ _ (⟨_, .box 40 _, _, _, _, _⟩ :: _) _ _); refine wpList_box_blk rfl 40 _ rfl (kArr k) rfl ?_; intro w0 hB0 hL hs0; have hc := hB0.cellK; clear hs0) | (go_at_call 12; refine (cV _ (by assumption)).mono ?_; rintro e u ⟨rfl, hb⟩; have hc1 := (hB0.next hb).cellK; have hL1 := more hL hb))
        go_ret
        exact ⟨rfl, by assumption⟩
    · have hs' : ¬ (k.str.size : Int) ≤ 1048576 := by omega
      have hr : kgood k = false := by simp [kgood, h0, hs]
      rw [hr]
      have b0 : (k.sym == 0) = true := by simpa using h0
      have b1 : ¬ (1 : Int) ≤ k.sym := by omega
      clear hr hs h0 hT
      go_enter Tryz.func13, Tryz.ntmps13
      go_wp2_with (first | ((with_reducible show wpList _ _ _ (⟨_, .box 40 _, _, _, _, _⟩ :: _) _ _); refine wpList_box_blk rfl 40 _ rfl (kArr k) rfl ?_; intro w0 hB0 hL hs0; have hc := hB0.cellK; clear hs0))
      go_ret
      exact ⟨rfl, by assumption⟩
  · have b0 : (k.sym == 0) = false := by simpa using h0
    have hr : kgood k = (decide (1 ≤ k.sym ∧ k.sym ≤ 65536) && Dc.isE k.str) := by simp [kgood, h0]
    rw [hr]
    generalize hX : (if (decide (1 ≤ k.sym ∧ k.sym ≤ 65536) && Dc.isE k.str) = true then (0 : Int) else 5) = X
    have HX := Lib.hid hX
    clear hX hr h0 hT
    go_enter Tryz.func13, Tryz.ntmps13
    go_wp2_with (first | ((with_reducible show wpList _ _ _ (⟨_, .box 40 _, _, _, _, _⟩ :: _) _ _); refine wpList_box_blk rfl 40 _ rfl (kArr k) rfl ?_; intro w0 hB0 hL hs0; have hc := hB0.cellK; clear hs0))
    all_goals go_ret
    all_goals refine ⟨ret_i ?_, by assumption⟩
    all_goals rw [← HX.out]
    all_goals simp_all [isE_eq]
    all_goals omega

def hArr (cap fuel depth deep : Int) (ov : Value) : Array Value := #[.int .i64 cap, .int .i64 fuel, .int .i64 depth, .int .i64 deep, ov]
theorem Blk.cellH {W : World} {b : Nat} {cap fuel depth deep : Int} {ov : Value} (h : Blk W b (hArr cap fuel depth deep ov) 102) : ∀ j, W.cell? ⟨b, j, none⟩ = #[.int .i64 cap, .int .i64 fuel, .int .i64 depth, .int .i64 deep, ov][j]? := h.cell
theorem set_fuel (cap fuel depth deep : Int) (ov : Value) (x : Int) : (hArr cap fuel depth deep ov).setIfInBounds 1 (.int .i64 x) = hArr cap x depth deep ov := rfl
theorem set_deep (cap fuel depth deep : Int) (ov : Value) (x : Int) : (hArr cap fuel depth deep ov).setIfInBounds 3 (.int .i64 x) = hArr cap fuel depth x ov := rfl

/-- an error's number, as an error -/
abbrev errV (n : Int) : Value := .iface 26 (.int .i64 n)

theorem spend_any (hb : Nat) (cap fuel depth deep : Int) (ov : Value) (w : World) (hH : Blk w hb (hArr cap fuel depth deep ov) 102) (hf : -9223372036854775808 < fuel ∧ fuel ≤ 9223372036854775807) :
    Calls Tryz.prog 170 #[.pointer (some ⟨hb, 0, none⟩)] w fun e w' => (fuel = 0 ∧ e = .returned (errV 1) ∧ w' = w) ∨ (fuel ≠ 0 ∧ e = .returned .nilIface ∧ Blk w' hb (hArr cap (fuel - 1) depth deep ov) 102 ∧ Only [hb] w w') := by
  have hc := hH.cellH
  have hfz := hH.frozen
  have HH := Lib.hid hH
  have HF := Lib.hid hf
  clear hH hf
  by_cases h0 : fuel = 0
  · have b0 : (fuel == 0) = true := by simpa using h0
    have H0 := Lib.hid h0
    clear h0
    go_enter Tryz.func170, Tryz.ntmps170
    go_wp2
    go_ret
    exact .inl ⟨H0.out, rfl, rfl⟩
  · have b0 : (fuel == 0) = false := by simpa using h0
    have H0 := Lib.hid h0
    clear h0
    have hw : wrap64 (fuel - 1) = fuel - 1 := by have := HF.out; unfold wrap64; omega
    go_enter Tryz.func170, Tryz.ntmps170
    go_wp2
    go_ret
    have h1 := only_setCell (o := 1) (v := .int .i64 (fuel - 1)) HH.out
    rw [set_fuel] at h1
    exact .inr ⟨H0.out, rfl, h1⟩


end Go.Proofs.YtoalboilghgalaaGreatDoor

/- The door: enter, leave. -/
namespace Go.Proofs.YtoalboilghgalaaGreatDoor
open Go.RowKit
open Go.Proofs.Dc (V Ds Ky)
attribute [local go_sem] run_store_float

theorem enter_any (hb : Nat) (cap fuel depth deep : Int) (ov : Value) (w : World) (hH : Blk w hb (hArr cap fuel depth deep ov) 102) (hf : 0 ≤ fuel ∧ fuel ≤ 9223372036854775807) (hd : 0 ≤ deep ∧ deep < depth ∧ depth ≤ 1000) :
    Calls Tryz.prog 141 #[.pointer (some ⟨hb, 0, none⟩)] w fun e w' => (fuel = 0 ∧ e = .returned (errV 1) ∧ w' = w) ∨ (fuel ≠ 0 ∧ e = .returned .nilIface ∧ Blk w' hb (hArr cap (fuel - 1) depth (deep + 1) ov) 102 ∧ Only [hb] w w') := by
  have cS := spend_any hb cap fuel depth deep ov w hH (by omega)
  have hne : (deep == depth) = false := by simp; omega
  have hwr : wrap64 (deep + 1) = deep + 1 := by unfold wrap64; omega
  clear hf hd hH
  go_enter Tryz.func141, Tryz.ntmps141
  go_wp2_with fail
  refine cS.mono ?_
  rintro e w1 (⟨h0, rfl, rfl⟩ | ⟨h0, rfl, hH1, hO1⟩)
  · have H0 := Lib.hid h0
    clear h0
    go_wp2
    go_ret
    exact .inl ⟨H0.out, rfl, rfl⟩
  · have H0 := Lib.hid h0
    clear h0
    have hc := hH1.cellH
    have hfz := hH1.frozen
    go_wp2
    go_region
    all_goals go_wp2
    all_goals go_ret
    have h2 := only_setCell (o := 3) (v := .int .i64 (deep + 1)) hH1
    rw [set_deep] at h2
    exact .inr ⟨H0.out, rfl, h2.1, hO1.trans h2.2.drew⟩

theorem leave_d (hb : Nat) (cap fuel depth deep : Int) (ov : Value) (u : FrameMode) (w : World) (hH : Blk w hb (hArr cap fuel depth deep ov) 102) (hd : 0 ≤ deep ∧ deep ≤ 1000) :
    CallsD Tryz.prog 142 #[.pointer (some ⟨hb, 0, none⟩)] u w fun e u' w' => u' = u ∧ (e = .returned (.tuple #[]) ∧ Blk w' hb (hArr cap fuel depth (deep - 1) ov) 102 ∧ Only [hb] w w') := by
  have hwr : wrap64 (deep - 1) = deep - 1 := by unfold wrap64; omega
  have hc := hH.cellH
  have hfz := hH.frozen
  have HH := Lib.hid hH
  have HW := Lib.hid hwr
  clear hH hd hwr
  go_enter_d Tryz.func142, Tryz.ntmps142
  go_wp2
  go_end0
  have h2 := only_setCell (o := 3) (v := .int .i64 (deep - 1)) HH.out
  rw [set_deep] at h2
  rw [HW.out]
  exact ⟨rfl, h2⟩

theorem within_bool_out (hb : Nat) (cap depth deep : Int) (ov : Value) (fn : Value) (w : World) (hH : Blk w hb (hArr cap 0 depth deep ov) 102) (hd : 0 ≤ deep ∧ deep < depth ∧ depth ≤ 1000) :
    Calls Tryz.prog 106 #[.pointer (some ⟨hb, 0, none⟩), fn] w fun e w' => e = .returned (.tuple #[.bool false, errV 1]) ∧ w' = w := by
  have cE := enter_any hb cap 0 depth deep ov w hH (by omega) hd
  clear hH hd
  go_enter_defers Tryz.func106, Tryz.ntmps106
  go_wp2_with fail
  refine cE.mono ?_
  rintro e w1 (⟨_, rfl, rfl⟩ | ⟨h0, _⟩)
  · go_wp2
    exact ⟨_, results_tmp2 rfl _ _ _, rfl, rfl⟩
  · exact absurd rfl h0

theorem within_bool (hb : Nat) (cap fuel depth deep : Int) (ov : Value) (g : FuncId) (lb : Array Value) (w : World) (hH : Blk w hb (hArr cap fuel depth deep ov) 102) (hf : 0 < fuel ∧ fuel ≤ 9223372036854775807) (hd : 0 ≤ deep ∧ deep < depth ∧ depth ≤ 900)
    (eg : ∀ args w, (callFunc g args).run Tryz.prog w = .ok (.enter g args) w) (Post : Bool → Int → Value → World → Prop)
    (cG : ∀ W1, Blk W1 hb (hArr cap (fuel - 1) depth (deep + 1) ov) 102 → Only [hb] w W1 → Calls Tryz.prog g lb W1 fun e W2 => ∃ x f' ov', e = .returned (.tuple #[.bool x, .nilIface]) ∧ Blk W2 hb (hArr cap f' depth (deep + 1) ov') 102 ∧ Post x f' ov' W2) :
    Calls Tryz.prog 106 #[.pointer (some ⟨hb, 0, none⟩), .func (.func g) #[] lb] w fun e w' => ∃ x f' ov' W2, e = .returned (.tuple #[.bool x, .nilIface]) ∧ Post x f' ov' W2 ∧ Blk w' hb (hArr cap f' depth deep ov') 102 ∧ Only [hb] W2 w' := by
  have cE := enter_any hb cap fuel depth deep ov w hH (by omega) (by omega)
  have HF := Lib.hid hf
  have HD := Lib.hid hd
  clear hH hd hf
  go_enter_defers Tryz.func106, Tryz.ntmps106
  go_wp2_with fail
  refine cE.mono ?_
  rintro e w1 (⟨h0, _⟩ | ⟨_, rfl, hH1, hO1⟩)
  · exact absurd h0 (by have := HF.out; omega)
  · have cG1 := cG w1 hH1 hO1
    clear cE
    go_wp2_with (first | (go_at_fn g; refine cG1.mono ?_; rintro e w2 ⟨x, f', ov', rfl, hH2, hP⟩))
    refine leaves_cons (f := 142) (args := #[.pointer (some ⟨hb, 0, none⟩)]) (by simp) (by simp [go_sem]) ?_
    refine (leave_d hb cap f' depth (deep + 1) ov' .returning _ hH2 (by have := HD.out; omega)).mono ?_
    rintro e u' w3 ⟨rfl, rfl, hH3, hO3⟩
    rw [show deep + 1 - 1 = deep by omega] at hH3
    exact ⟨_, results_tmp2 rfl _ _ _, x, f', ov', w2, rfl, hP, hH3, hO3⟩


end Go.Proofs.YtoalboilghgalaaGreatDoor
