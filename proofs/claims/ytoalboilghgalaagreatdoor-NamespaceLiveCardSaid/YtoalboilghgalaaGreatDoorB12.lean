/- Lemmas for this claim, in parts: Key, Door, Maps. -/
import Derived.Test.YtoalboilghgalaaGreatDoorB11
import Derived.Defers
import Derived.BigRegion
import Derived.Shelf.Abstract
set_option maxRecDepth 100000
set_option maxHeartbeats 4000000
set_option linter.unusedVariables false
set_option linter.unusedSimpArgs false
/- key.Check; the door: Spend, enter, leave. -/
namespace Go.Proofs.YtoalboilghgalaaGreatDoor
open Go.RowKit
open Go.Proofs.Dc (V Ds Ky)
attribute [local go_sem] run_store_float

theorem ret_i {a b : Int} (h : a = b) : Ending.returned (.int .i64 a) = .returned (.int .i64 b) := by rw [h]
/-- key.Check says that it is well formed -/
def kgood (k : Ky) : Bool := (k.sym == 0 && (decide (k.str.size ≤ 1048576) && uvalid k.str)) || (decide (1 ≤ k.sym ∧ k.sym ≤ 65536) && Dc.isE k.str)

def kArr (k : Ky) : Array Value := #[.string k.str, .int .i64 k.sym]
theorem Blk.cellK {W : World} {b : Nat} {k : Ky} (h : Blk W b (kArr k) 40) : ∀ j, W.cell? ⟨b, j, none⟩ = #[.string k.str, .int .i64 k.sym][j]? := h.cell
theorem Tryz.row40 : ∃ d, Tryz.prog.underlying 40 = some d ∧ d.isRow = true := ⟨_, Tryz.underlying40, rfl⟩
theorem Tryz.size40 : (Tryz.prog.info? 40).map (·.size) = some 2 := by kernel_rfl

theorem keycheck_any (k : Ky) (w : World) (hT : Tabs w) : Calls Tryz.prog 13 #[.agg (kArr k)] w fun e w' => e = .returned (.int .i64 (if kgood k then 0 else 5)) ∧ Below w.heap.size w w' := by
  by_cases h0 : k.sym = 0
  · by_cases hs : k.str.size ≤ 1048576
    · have hs' : (k.str.size : Int) ≤ 1048576 := by omega
      have cV := fun W (h : Below w.heap.size w W) => valid_any k.str W (hT.below h) (by omega)
      have hr : kgood k = uvalid k.str := by simp [kgood, h0, hs]
      rw [hr]
      have b0 : (k.sym == 0) = true := by simpa using h0
      have b1 : ¬ (1 : Int) ≤ k.sym := by omega
      clear hr hs h0 hT
      generalize uvalid k.str = R at *
      cases R
      all_goals
        go_enter Tryz.func13, Tryz.ntmps13
        go_wp2_with (first | ((with_reducible show wpList _ _ _ (⟨_, .box 40 _, _, _, _, _⟩ :: _) _ _); refine wpList_box_blk rfl 40 _ rfl (kArr k) rfl ?_; intro w0 hB0 hL hs0; have hc := hB0.cellK; clear hs0) | (go_at_call 12; refine (cV _ (by assumption)).mono ?_; rintro e u ⟨rfl, hb⟩; have hc1 := (hB0.next hb).cellK; have hL1 := more hL hb))
        go_ret
        exact ⟨rfl, by assumption⟩
    · have hs' : ¬ (k.str.size : Int) ≤ 1048576 := by omega
      have hr : kgood k = false := by simp [kgood, h0, hs]
      rw [hr]
      have b0 : (k.sym == 0) = true := by simpa using h0
      have b1 : ¬ (1 : Int) ≤ k.sym := by omega
      clear hr hs h0 hT
      go_enter Tryz.func13, Tryz.ntmps13
      go_wp2_with (first | ((with_reducible show wpList _ _ _ (⟨_, .box 40 _, _, _, _, _⟩ :: _) _ _); refine wpList_box_blk rfl 40 _ rfl (kArr k) rfl ?_; intro w0 hB0 hL hs0; have hc := hB0.cellK; clear hs0))
      go_ret
      exact ⟨rfl, by assumption⟩
  · have b0 : (k.sym == 0) = false := by simpa using h0
    have hr : kgood k = (decide (1 ≤ k.sym ∧ k.sym ≤ 65536) && Dc.isE k.str) := by simp [kgood, h0]
    rw [hr]
    generalize hX : (if (decide (1 ≤ k.sym ∧ k.sym ≤ 65536) && Dc.isE k.str) = true then (0 : Int) else 5) = X
    have HX := Lib.hid hX
    clear hX hr h0 hT
    go_enter Tryz.func13, Tryz.ntmps13
    go_wp2_with (first | ((with_reducible show wpList _ _ _ (⟨_, .box 40 _, _, _, _, _⟩ :: _) _ _); refine wpList_box_blk rfl 40 _ rfl (kArr k) rfl ?_; intro w0 hB0 hL hs0; have hc := hB0.cellK; clear hs0))
    all_goals go_ret
    all_goals refine ⟨ret_i ?_, by assumption⟩
    all_goals rw [← HX.out]
    all_goals simp_all [isE_eq]
    all_goals omega

def hArr (cap fuel depth deep : Int) (ov : Value) : Array Value := #[.int .i64 cap, .int .i64 fuel, .int .i64 depth, .int .i64 deep, ov]
theorem Blk.cellH {W : World} {b : Nat} {cap fuel depth deep : Int} {ov : Value} (h : Blk W b (hArr cap fuel depth deep ov) 102) : ∀ j, W.cell? ⟨b, j, none⟩ = #[.int .i64 cap, .int .i64 fuel, .int .i64 depth, .int .i64 deep, ov][j]? := h.cell
theorem set_fuel (cap fuel depth deep : Int) (ov : Value) (x : Int) : (hArr cap fuel depth deep ov).setIfInBounds 1 (.int .i64 x) = hArr cap x depth deep ov := rfl
theorem set_deep (cap fuel depth deep : Int) (ov : Value) (x : Int) : (hArr cap fuel depth deep ov).setIfInBounds 3 (.int .i64 x) = hArr cap fuel depth x ov := rfl

/-- an error's number, as an error -/
abbrev errV (n : Int) : Value := .iface 26 (.int .i64 n)

theorem spend_any (hb : Nat) (cap fuel depth deep : Int) (ov : Value) (w : World) (hH : Blk w hb (hArr cap fuel depth deep ov) 102) (hf : -9223372036854775808 < fuel ∧ fuel ≤ 9223372036854775807) :
    Calls Tryz.prog 170 #[.pointer (some ⟨hb, 0, none⟩)] w fun e w' => (fuel = 0 ∧ e = .returned (errV 1) ∧ w' = w) ∨ (fuel ≠ 0 ∧ e = .returned .nilIface ∧ Blk w' hb (hArr cap (fuel - 1) depth deep ov) 102 ∧ Only [hb] w w') := by
  have hc := hH.cellH
  have hfz := hH.frozen
  have HH := Lib.hid hH
  have HF := Lib.hid hf
  clear hH hf
  by_cases h0 : fuel = 0
  · have b0 : (fuel == 0) = true := by simpa using h0
    have H0 := Lib.hid h0
    clear h0
    go_enter Tryz.func170, Tryz.ntmps170
    go_wp2
    go_ret
    exact .inl ⟨H0.out, rfl, rfl⟩
  · have b0 : (fuel == 0) = false := by simpa using h0
    have H0 := Lib.hid h0
    clear h0
    have hw : wrap64 (fuel - 1) = fuel - 1 := by have := HF.out; unfold wrap64; omega
    go_enter Tryz.func170, Tryz.ntmps170
    go_wp2
    go_ret
    have h1 := only_setCell (o := 1) (v := .int .i64 (fuel - 1)) HH.out
    rw [set_fuel] at h1
    exact .inr ⟨H0.out, rfl, h1⟩


end Go.Proofs.YtoalboilghgalaaGreatDoor

/- The door: enter, leave. -/
namespace Go.Proofs.YtoalboilghgalaaGreatDoor
open Go.RowKit
open Go.Proofs.Dc (V Ds Ky)
attribute [local go_sem] run_store_float

theorem enter_any (hb : Nat) (cap fuel depth deep : Int) (ov : Value) (w : World) (hH : Blk w hb (hArr cap fuel depth deep ov) 102) (hf : 0 ≤ fuel ∧ fuel ≤ 9223372036854775807) (hd : 0 ≤ deep ∧ deep < depth ∧ depth ≤ 1000) :
    Calls Tryz.prog 141 #[.pointer (some ⟨hb, 0, none⟩)] w fun e w' => (fuel = 0 ∧ e = .returned (errV 1) ∧ w' = w) ∨ (fuel ≠ 0 ∧ e = .returned .nilIface ∧ Blk w' hb (hArr cap (fuel - 1) depth (deep + 1) ov) 102 ∧ Only [hb] w w') := by
  have cS := spend_any hb cap fuel depth deep ov w hH (by omega)
  have hne : (deep == depth) = false := by simp; omega
  have hwr : wrap64 (deep + 1) = deep + 1 := by unfold wrap64; omega
  clear hf hd hH
  go_enter Tryz.func141, Tryz.ntmps141
  go_wp2_with fail
  refine cS.mono ?_
  rintro e w1 (⟨h0, rfl, rfl⟩ | ⟨h0, rfl, hH1, hO1⟩)
  · have H0 := Lib.hid h0
    clear h0
    go_wp2
    go_ret
    exact .inl ⟨H0.out, rfl, rfl⟩
  · have H0 := Lib.hid h0
    clear h0
    have hc := hH1.cellH
    have hfz := hH1.frozen
    go_wp2
    go_region
    all_goals go_wp2
    all_goals go_ret
    have h2 := only_setCell (o := 3) (v := .int .i64 (deep + 1)) hH1
    rw [set_deep] at h2
    exact .inr ⟨H0.out, rfl, h2.1, hO1.trans h2.2.drew⟩

theorem leave_d (hb : Nat) (cap fuel depth deep : Int) (ov : Value) (u : FrameMode) (w : World) (hH : Blk w hb (hArr cap fuel depth deep ov) 102) (hd : 0 ≤ deep ∧ deep ≤ 1000) :
    CallsD Tryz.prog 142 #[.pointer (some ⟨hb, 0, none⟩)] u w fun e u' w' => u' = u ∧ (e = .returned (.tuple #[]) ∧ Blk w' hb (hArr cap fuel depth (deep - 1) ov) 102 ∧ Only [hb] w w') := by
  have hwr : wrap64 (deep - 1) = deep - 1 := by unfold wrap64; omega
  have hc := hH.cellH
  have hfz := hH.frozen
  have HH := Lib.hid hH
  have HW := Lib.hid hwr
  clear hH hd hwr
  go_enter_d Tryz.func142, Tryz.ntmps142
  go_wp2
  go_end0
  have h2 := only_setCell (o := 3) (v := .int .i64 (deep - 1)) HH.out
  rw [set_deep] at h2
  rw [HW.out]
  exact ⟨rfl, h2⟩

theorem within_bool_out (hb : Nat) (cap depth deep : Int) (ov : Value) (fn : Value) (w : World) (hH : Blk w hb (hArr cap 0 depth deep ov) 102) (hd : 0 ≤ deep ∧ deep < depth ∧ depth ≤ 1000) :
    Calls Tryz.prog 106 #[.pointer (some ⟨hb, 0, none⟩), fn] w fun e w' => e = .returned (.tuple #[.bool false, errV 1]) ∧ w' = w := by
  have cE := enter_any hb cap 0 depth deep ov w hH (by omega) hd
  clear hH hd
  go_enter_defers Tryz.func106, Tryz.ntmps106
  go_wp2_with fail
  refine cE.mono ?_
  rintro e w1 (⟨_, rfl, rfl⟩ | ⟨h0, _⟩)
  · go_wp2
    exact ⟨_, results_tmp2 rfl _ _ _, rfl, rfl⟩
  · exact absurd rfl h0

theorem within_bool (hb : Nat) (cap fuel depth deep : Int) (ov : Value) (g : FuncId) (lb : Array Value) (w : World) (hH : Blk w hb (hArr cap fuel depth deep ov) 102) (hf : 0 < fuel ∧ fuel ≤ 9223372036854775807) (hd : 0 ≤ deep ∧ deep < depth ∧ depth ≤ 900)
    (eg : ∀ args w, (callFunc g args).run Tryz.prog w = .ok (.enter g args) w) (Post : Bool → Int → Value → World → Prop)
    (cG : ∀ W1, Blk W1 hb (hArr cap (fuel - 1) depth (deep + 1) ov) 102 → Only [hb] w W1 → Calls Tryz.prog g lb W1 fun e W2 => ∃ x f' ov', e = .returned (.tuple #[.bool x, .nilIface]) ∧ Blk W2 hb (hArr cap f' depth (deep + 1) ov') 102 ∧ Post x f' ov' W2) :
    Calls Tryz.prog 106 #[.pointer (some ⟨hb, 0, none⟩), .func (.func g) #[] lb] w fun e w' => ∃ x f' ov' W2, e = .returned (.tuple #[.bool x, .nilIface]) ∧ Post x f' ov' W2 ∧ Blk w' hb (hArr cap f' depth deep ov') 102 ∧ Only [hb] W2 w' := by
  have cE := enter_any hb cap fuel depth deep ov w hH (by omega) (by omega)
  have HF := Lib.hid hf
  have HD := Lib.hid hd
  clear hH hd hf
  go_enter_defers Tryz.func106, Tryz.ntmps106
  go_wp2_with fail
  refine cE.mono ?_
  rintro e w1 (⟨h0, _⟩ | ⟨_, rfl, hH1, hO1⟩)
  · exact absurd h0 (by have := HF.out; omega)
  · have cG1 := cG w1 hH1 hO1
    clear cE
    go_wp2_with (first | (go_at_fn g; refine cG1.mono ?_; rintro e w2 ⟨x, f', ov', rfl, hH2, hP⟩))
    refine leaves_cons (f := 142) (args := #[.pointer (some ⟨hb, 0, none⟩)]) (by simp) (by simp [go_sem]) ?_
    refine (leave_d hb cap f' depth (deep + 1) ov' .returning _ hH2 (by have := HD.out; omega)).mono ?_
    rintro e u' w3 ⟨rfl, rfl, hH3, hO3⟩
    rw [show deep + 1 - 1 = deep by omega] at hH3
    exact ⟨_, results_tmp2 rfl _ _ _, x, f', ov', w2, rfl, hP, hH3, hO3⟩


end Go.Proofs.YtoalboilghgalaaGreatDoor

/- The map from keys to places. -/
namespace Go.Proofs.YtoalboilghgalaaGreatDoor
open Go.RowKit
open Go.Proofs.Dc (V Ds Ky)
attribute [local go_sem] run_store_float

/-- the entries of the map: key i stands for i -/
def MapEs (es : Array MapEntry) (L : List Ky) : Prop := es.toList.map (fun e => (e.key, e.val)) = (L.mapIdx fun i k => (.agg (kArr k), .int .i64 (i : Int)))

/-- where a key stands -/
def keyAt : List Ky → Ky → Option Nat
  | [], _ => none
  | a :: r, k => if keq k a then some 0 else (keyAt r k).map (· + 1)

theorem run_equal_k (a b : Ky) (w : World) : (Op.equal 40 (.agg (kArr a)) (.agg (kArr b))).run Tryz.prog w = .ok (keq a b) w := by
  have h := eql_k a b w
  rw [run_eql_struct] at h
  unfold Op.equal
  change (Sem.run Tryz.prog (Op.equalIn 10000 40 (.agg (kArr a)) (.agg (kArr b))) w).andThen _ = _ at h
  cases hq : Sem.run Tryz.prog (Op.equalIn 10000 40 (.agg (kArr a)) (.agg (kArr b))) w with
  | ok x w' => rw [hq] at h; simp [Result.andThen] at h; show Sem.run Tryz.prog (Op.equalIn 10000 40 (.agg (kArr a)) (.agg (kArr b))) w = _; rw [hq, h.1, h.2]
  | halt x w' => rw [hq] at h; simp [Result.andThen] at h

theorem run_findAsking (k : Ky) (w : World) : ∀ (es : List MapEntry) (L : List Ky) (i j : Nat), es.map (fun e => (e.key, e.val)) = (L.mapIdx fun n x => (Value.agg (kArr x), Value.int .i64 ((n + j : Nat) : Int))) →
    (Instr.findAsking 40 (.agg (kArr k)) es i).run Tryz.prog w = .ok ((keyAt L k).map fun n => (n + i, .int .i64 ((n + j : Nat) : Int))) w
  | [], L, i, j, h => by
    have : L = [] := by
      cases L with
      | nil => rfl
      | cons a r => simp [List.mapIdx_cons] at h
    subst this
    simp [Instr.findAsking, keyAt]
  | e :: es, L, i, j, h => by
    cases L with
    | nil => simp at h
    | cons a r =>
      simp only [List.map_cons, List.mapIdx_cons, List.cons.injEq, Prod.mk.injEq] at h
      obtain ⟨⟨h1, h2⟩, h3⟩ := h
      have ih := run_findAsking k w es r (i + 1) (j + 1) (by rw [h3]; congr 1; funext n x; simp; omega)
      simp only [Instr.findAsking, Sem.run_bind, h1, run_equal_k, Result.andThen_ok, Sem.run_ite]
      cases hq : keq k a
      · simp only [Bool.false_eq_true, if_false, ih, keyAt, hq]
        cases keyAt r k with
        | none => rfl
        | some n => simp; omega
      · simp [keyAt, hq, h2]

theorem run_findKey (k : Ky) (w : World) (es : Array MapEntry) (L : List Ky) (h : MapEs es L) :
    (Instr.findKey 40 (.agg (kArr k)) es.toList).run Tryz.prog w = .ok ((keyAt L k).map fun n => (n, .int .i64 (n : Int))) w := by
  have hf := run_findAsking k w es.toList L 0 0 h
  unfold Instr.findKey
  rw [Sem.run_bind, run_underlying Tryz.underlying40]
  simp only [Result.andThen_ok]
  cases hl : es.toList with
  | nil =>
    have : L = [] := by
      unfold MapEs at h
      rw [hl] at h
      cases L with
      | nil => rfl
      | cons a r => simp [List.mapIdx_cons] at h
    subst this
    simp [Instr.findNow, keyAt]
  | cons e r =>
    rw [hl] at hf
    simp only [Instr.findNow, Instr.sameNow]
    simpa using hf

theorem ck9 (b : Bool) (n : Nat) (s : ByteArray) (w : World) : (Instr.checkKey b (n + 1) 9 (.string s)).run Tryz.prog w = .ok () w := by
  simp [Instr.checkKey, run_underlying Tryz.underlying9]
theorem ck3 (b : Bool) (n : Nat) (x : Int) (w : World) : (Instr.checkKey b (n + 1) 3 (.int .i64 x)).run Tryz.prog w = .ok () w := by
  simp [Instr.checkKey, run_underlying Tryz.underlying3]
theorem run_checkKey (b : Bool) (k : Ky) (w : World) : (Instr.checkKey b 10000 40 (.agg (kArr k))).run Tryz.prog w = .ok () w := by
  have u3 := Tryz.underlying3
  have a3 := Tryz.isAgg3
  have z3 := Tryz.sizeOf3
  have u9 := Tryz.underlying9
  have a9 := Tryz.isAgg9
  have z9 := Tryz.sizeOf9
  have u40 := Tryz.underlying40
  rw [show (10000 : Nat) = 9999 + 1 from rfl]
  unfold Instr.checkKey
  simp only [kArr]
  go_simp
  simp [ck9 b 9998, ck3 b 9998]

/-- block b is the map from the keys of L to their places -/
def MapIs (W : World) (b : Nat) (L : List Ky) : Prop := ∃ es clock, W.heap[b]? = some (.map es clock) ∧ MapEs es L

theorem run_lookup_k {W : World} {b : Nat} {L : List Ky} (h : MapIs W b L) (k : Ky) : (Instr.lookup 227 (.map (some b)) (.agg (kArr k)) true).run Tryz.prog W =
    .ok (.tuple #[.int .i64 (((keyAt L k).getD 0 : Nat) : Int), .bool (keyAt L k).isSome]) W := by
  obtain ⟨es, clock, hb, he⟩ := h
  unfold Instr.lookup
  rw [Sem.run_bind, run_underlying Tryz.underlying227]
  simp only [Result.andThen_ok]
  have hg : (getObj b).run Tryz.prog W = .ok (.map es clock) W := by simp [getObj, Sem.run, hb]
  have hz : (zeroValue 3).run Tryz.prog W = .ok (.int .i64 0) W := Tryz.zeroValue3 W
  simp only [Sem.run_bind, hg, Result.andThen_ok, run_checkKey, run_findKey k W es L he, Sem.run_pure]
  cases keyAt L k with
  | none => simp [hz]
  | some n => simp

/-- a new key goes in behind the others -/
theorem run_update_k {W : World} {b : Nat} {L : List Ky} (h : MapIs W b L) (k : Ky) (hk : keyAt L k = none) : ∃ W', (Instr.mapUpdate 227 (.map (some b)) (.agg (kArr k)) (.int .i64 (L.length : Nat))).run Tryz.prog W = .ok () W' ∧
    MapIs W' b (L ++ [k]) ∧ Only [b] W W' := by
  obtain ⟨es, clock, hb, he⟩ := h
  have hlt : b < W.heap.size := (Array.getElem?_eq_some_iff.1 hb).1
  have hg : (getObj b).run Tryz.prog W = .ok (.map es clock) W := by simp [getObj, Sem.run, hb]
  refine ⟨{ W with heap := W.heap.setIfInBounds b (.map (es.push { key := .agg (kArr k), val := .int .i64 (L.length : Nat), born := clock }) (clock + 1)) }, ?_, ⟨es.push { key := .agg (kArr k), val := .int .i64 (L.length : Nat), born := clock }, clock + 1, by simp [hlt], ?_⟩, rfl, rfl, rfl, by simp, fun i _ hn => by simp at hn; simp [Array.getElem?_setIfInBounds_ne (Ne.symm hn)]⟩
  · unfold Instr.mapUpdate
    rw [Sem.run_bind, run_underlying Tryz.underlying227]
    simp only [Result.andThen_ok, Sem.run_bind, hg, run_checkKey, run_findKey k W es L he, hk, Option.map_none]
    simp [setObj, Sem.run, hb]
  · unfold MapEs at he ⊢
    simp [he, List.mapIdx_append]

end Go.Proofs.YtoalboilghgalaaGreatDoor
