/- Lemmas for this claim, in parts: Sdoor, Snew0, Sdata. -/
import Derived.Test.YtoalboilghgalaaGreatDoorC37
import Derived.Test.YtoalboilghgalaaGreatDoorC38
import Derived.Test.YtoalboilghgalaaGreatDoorC19
import Derived.Test.YtoalboilghgalaaGreatDoorC01
set_option maxRecDepth 100000
set_option maxHeartbeats 4000000
set_option linter.unusedVariables false
set_option linter.unusedSimpArgs false
/- A String object: the doors. -/
namespace Go.Proofs.YtoalboilghgalaaGreatDoor
open Go.RowKit
open Go.Proofs.Dc (V Ds Ky)
attribute [local go_sem] run_store_float

theorem kS_ok {kd : Kd} {xb : Nat} (h : kd.mv = .iface 103 (.pointer (some ⟨xb, 0, none⟩))) : KdOk kd where
  call := by rw [h]; exact run_typeAssert_lacksB Tryz.underlying248 (by kernel_rfl) (by kernel_rfl) _ _
  shows := by rw [h]; exact run_typeAssert_lacksB Tryz.underlying149 (by kernel_rfl) (by kernel_rfl) _ _
theorem wrong_zero {k : Ky} {d : Ds} (h : wrongD k d = 0) : kgood k = true ∧ Dc.kindB uvalid d = true ∧ ¬ d.get.kind = 7 ∧ ¬ d.set.kind = 7 := by
  unfold wrongD at h
  cases h1 : kgood k
  · simp [h1] at h
  · cases h2 : Dc.kindB uvalid d
    · simp [h1, h2] at h
    · simp only [h1, h2, Bool.true_eq_false, if_false] at h
      unfold wrongN at h
      split at h
      · cases h
      · split at h
        · rename_i h3; exact ⟨rfl, rfl, h3⟩
        · cases h
def vArr2 (v r : V) : Array Value := #[.int .i64 v.kind, .bool v.bool, .float .f64 v.num, .string v.str, .int .i64 v.id, .int .i64 r.kind, .bool r.bool, .float .f64 r.num, .string r.str, .int .i64 r.id]
theorem bs116_1 (v : V) (w : World) : (Instr.buildSlice 116 1 #[(0, .agg #[.int .i64 v.kind, .bool v.bool, .float .f64 v.num, .string v.str, .int .i64 v.id])]).run Tryz.prog w = .ok (.slice (some ⟨w.heap.size, 0, none⟩) 1 1) (w.alloc (.cells (vArr v) 36)) := by kernel_rfl
theorem bs116_2 (v r : V) (w : World) : (Instr.buildSlice 116 2 #[(0, .agg #[.int .i64 v.kind, .bool v.bool, .float .f64 v.num, .string v.str, .int .i64 v.id]), (1, .agg #[.int .i64 r.kind, .bool r.bool, .float .f64 r.num, .string r.str, .int .i64 r.id])]).run Tryz.prog w = .ok (.slice (some ⟨w.heap.size, 0, none⟩) 2 2) (w.alloc (.cells (vArr2 v r) 36)) := by kernel_rfl
theorem vals1 {W : World} {b : Nat} {v : V} (h : Blk W b (vArr v) 36) : ValsAt W b [v] := ⟨_, h, fun i u hu j hj => by
  match i, hu with
  | 0, hu => obtain rfl : v = u := by simpa using hu
             match j, hj with
             | 0, _ => rfl
             | 1, _ => rfl
             | 2, _ => rfl
             | 3, _ => rfl
             | 4, _ => rfl
  | i + 1, hu => simp at hu⟩
theorem vals2 {W : World} {b : Nat} {v r : V} (h : Blk W b (vArr2 v r) 36) : ValsAt W b [v, r] := ⟨_, h, fun i u hu j hj => by
  match i, hu with
  | 0, hu => obtain rfl : v = u := by simpa using hu
             match j, hj with
             | 0, _ => rfl
             | 1, _ => rfl
             | 2, _ => rfl
             | 3, _ => rfl
             | 4, _ => rfl
  | 1, hu => obtain rfl : r = u := by simpa using hu
             match j, hj with
             | 0, _ => rfl
             | 1, _ => rfl
             | 2, _ => rfl
             | 3, _ => rfl
             | 4, _ => rfl
  | i + 2, hu => simp at hu⟩
/-- behind a door: some value, some fuel, properties as said -/
def DoorP (Post : Int → List (Ky × Ds) → Prop) (n0 : Nat) (w : World) (hb : Nat) (ov : Value) (ob : Nat) (cap deep : Int) (kd : Kd) (ext : Bool) (e : Ending) (w' : World) : Prop :=
  ∃ v f L' tp, e = .returned v ∧ StX n0 w' hb ov ob tp cap f deep kd ext L' ∧ Keeps n0 w w' ∧ Post f L'

theorem sddef_bad {n0 : Nat} {w : World} {hb : Nat} {ov : Value} {ob : Nat} {tp : Option Addr} {cap fuel deep : Int} {kd : Kd} {ext : Bool} {L : List (Ky × Ds)} (s : StX n0 w hb ov ob tp cap fuel deep kd ext L) {xb g uc : Nat} {sb : ByteArray} {A : Option Addr} {U : List Int} (hQ : SAt w xb sb g uc A U) (hmv : kd.mv = .iface 103 (.pointer (some ⟨xb, 0, none⟩))) (hf : Can fuel deep kd) (k : Ky) (d : Ds) (hd : Nums d) (n : Int) (hw : wrongD k d = n) (hn0 : n ≠ 0) : Calls Tryz.prog 14 #[.pointer (some ⟨hb, 0, none⟩), .int .i64 1, .agg (kArr k), .agg (dArr d)] w (DidS (.tuple #[.bool false, errV n]) n0 w hb ov ob cap fuel deep kd ext L) := by
  have hne1 : (n == 0) = false := by simpa using hn0
  have hne2 : (n != 0) = true := by simpa using hn0
  have HW := Lib.hid hw
  have cur := Bag.start s
  clear s hw hn0
  go_enter Tryz.func14, Tryz.ntmps14
  go_wp2_with (first | ((with_reducible show wpList _ _ _ (⟨_, .box 40 _, _, _, _, _⟩ :: _) _ _); refine wpList_box_blk rfl 40 _ rfl (kArr k) rfl ?_; intro wc hB hL hs; replace cur := cur.push hL hB (Nat.le_refl _) rfl; clear hB hL hs) | ((with_reducible show wpList _ _ _ (⟨_, .box 43 _, _, _, _, _⟩ :: _) _ _); refine wpList_box_blk rfl 43 _ rfl (dArr d) rfl ?_; intro wd hB hL hs; replace cur := cur.push hL hB (Nat.le_refl _) rfl; clear hB hL hs) | (go_at_call 55; refine (wrong_any cur.s (kS_ok hmv) k d hd w.heap.size wc.heap.size (cur.blk 1 rfl) (cur.blk 0 rfl)).mono ?_; rw [HW.out]; rintro e wX ⟨rfl, hb'⟩; replace cur := cur.next hb'; clear hb'))
  go_ret2
  exact ⟨tp, rfl, cur.s, cur.k⟩
theorem sddef_in {n0 : Nat} {w : World} {hb : Nat} {ov : Value} {ob : Nat} {tp : Option Addr} {cap fuel deep : Int} {kd : Kd} {ext : Bool} {L : List (Ky × Ds)} (s : StX n0 w hb ov ob tp cap fuel deep kd ext L) {xb g uc : Nat} {sb : ByteArray} {A : Option Addr} {U : List Int} (hQ : SAt w xb sb g uc A U) (hmv : kd.mv = .iface 103 (.pointer (some ⟨xb, 0, none⟩))) (hf : Can fuel deep kd) (k : Ky) (d : Ds) (hd : Nums d) (hw : wrongD k d = 0) (hn : LNums L) (hl : LOk L) : Calls Tryz.prog 14 #[.pointer (some ⟨hb, 0, none⟩), .int .i64 1, .agg (kArr k), .agg (dArr d)] w (DidS (.tuple #[.bool (defBS ext L U k d), .nilIface]) n0 w hb ov ob cap (fuel - 1) deep kd ext (defLS ext L U k d)) := by
  obtain ⟨hg, hkd, _⟩ := wrong_zero hw
  have HW := Lib.hid hw
  have HG := Lib.hid (And.intro hg hkd)
  have cur := Bag.start s
  clear s hw hg hkd
  go_enter Tryz.func14, Tryz.ntmps14
  go_wp2_with (first | ((with_reducible show wpList _ _ _ (⟨_, .box 40 _, _, _, _, _⟩ :: _) _ _); refine wpList_box_blk rfl 40 _ rfl (kArr k) rfl ?_; intro wc hB hL hs; replace cur := cur.push hL hB (Nat.le_refl _) rfl; clear hB hL hs) | ((with_reducible show wpList _ _ _ (⟨_, .box 43 _, _, _, _, _⟩ :: _) _ _); refine wpList_box_blk rfl 43 _ rfl (dArr d) rfl ?_; intro wd hB hL hs; replace cur := cur.push hL hB (Nat.le_refl _) rfl; clear hB hL hs) | (go_at_call 55; refine (wrong_any cur.s (kS_ok hmv) k d hd w.heap.size wc.heap.size (cur.blk 1 rfl) (cur.blk 0 rfl)).mono ?_; rw [HW.out]; rintro e wX ⟨rfl, hb'⟩; replace cur := cur.next hb'; clear hb') | ((with_reducible show wpList _ _ _ (⟨_, .load 40 (.tmp 6), _, _, _, _⟩ :: _) _ _); refine wpList_load_blk rfl 40 _ rfl _ rfl (cur.blk 1 rfl) Tryz.row40 Tryz.size40 ?_) | ((with_reducible show wpList _ _ _ (⟨_, .load 43 (.tmp 7), _, _, _, _⟩ :: _) _ _); refine wpList_load_blk rfl 43 _ rfl _ rfl (cur.blk 0 rfl) Tryz.row43 Tryz.size43 ?_) | (go_at_call 56; refine (sedef cur.s (hQ.keeps cur.k) hmv hf k d HG.out.1 hd HG.out.2 hn hl).mono ?_; rintro e wY ⟨tp', rfl, s9, k9⟩; replace cur := cur.go s9 k9))
  go_ret2
  exact ⟨tp', rfl, cur.s, cur.k⟩
theorem sddef {n0 : Nat} {w : World} {hb : Nat} {ov : Value} {ob : Nat} {tp : Option Addr} {cap fuel deep : Int} {kd : Kd} {ext : Bool} {L : List (Ky × Ds)} (s : StX n0 w hb ov ob tp cap fuel deep kd ext L) {xb g uc : Nat} {sb : ByteArray} {A : Option Addr} {U : List Int} (hQ : SAt w xb sb g uc A U) (hmv : kd.mv = .iface 103 (.pointer (some ⟨xb, 0, none⟩))) (hf : Can fuel deep kd) (k : Ky) (d : Ds) (hd : Nums d) (hn : LNums L) (hl : LOk L) : Calls Tryz.prog 14 #[.pointer (some ⟨hb, 0, none⟩), .int .i64 1, .agg (kArr k), .agg (dArr d)] w (DoorP (fun f L' => fuel - 1 ≤ f ∧ (L' = L ∨ (wrongD k d = 0 ∧ L' = defLS ext L U k d))) n0 w hb ov ob cap deep kd ext) := by
  by_cases h : wrongD k d = 0
  · refine (sddef_in s hQ hmv hf k d hd h hn hl).mono ?_
    rintro e w' ⟨tp', rfl, s9, k9⟩
    exact ⟨_, _, _, tp', rfl, s9, k9, Int.le_refl _, .inr ⟨h, rfl⟩⟩
  · refine (sddef_bad s hQ hmv hf k d hd _ rfl h).mono ?_
    rintro e w' ⟨tp', rfl, s9, k9⟩
    exact ⟨_, _, _, tp', rfl, s9, k9, by omega, .inl rfl⟩

theorem sdset {n0 : Nat} {w : World} {hb : Nat} {ov : Value} {ob : Nat} {tp : Option Addr} {cap fuel deep : Int} {kd : Kd} {ext : Bool} {L : List (Ky × Ds)} (s : StX n0 w hb ov ob tp cap fuel deep kd ext L) {xb g uc : Nat} {sb : ByteArray} {A : Option Addr} {U : List Int} (hQ : SAt w xb sb g uc A U) (hmv : kd.mv = .iface 103 (.pointer (some ⟨xb, 0, none⟩))) (hf : Can fuel deep kd) (k : Ky) (v : V) (hpr : kd.proto = vN) (hd1 : deep + 1 < kd.dp) (hf3 : 3 < fuel) (hg : kgood k = true) (hvn : v.num < 2 ^ 64) (hn : LNums L) (hl : LOk L) (hr : NoRef L) : Calls Tryz.prog 15 #[.pointer (some ⟨hb, 0, none⟩), .int .i64 1, .agg (kArr k), .agg (vArr v), .agg (vArr vR1)] w (DoorP (fun f L' => fuel - 4 ≤ f ∧ (L' = L ∨ (Dc.good uvalid v = true ∧ (L' = defLS ext L U k (newD v) ∨ L' = defLS ext L U k (oldD v))))) n0 w hb ov ob cap deep kd ext) := by
  have HG := Lib.hid hg
  have HNV := Lib.hid hvn
  have HNR := Lib.hid (show vR1.num < 2 ^ 64 by decide)
  have HX := Lib.hid (And.intro hpr (And.intro hd1 (And.intro hf3 (And.intro hn (And.intro hl hr)))))
  have cur := Bag.start s
  clear hg hvn s hpr hd1 hn hl hr
  obtain ⟨n, hn⟩ : ∃ n : Int, wrongV [v, vR1] = n := ⟨_, rfl⟩
  have HW := Lib.hid hn
  clear hn
  by_cases hn0 : n = 0
  · subst hn0
    have hgd : Dc.good uvalid v = true := by
      have h := HW.out
      unfold wrongV at h
      split at h
      · rename_i h1
        exact List.all_eq_true.1 h1 v (by simp)
      · cases h
    have HGD := Lib.hid hgd
    clear hgd
    go_enter Tryz.func15, Tryz.ntmps15
    go_wp2_with (first | ((with_reducible show wpList _ _ _ (⟨_, .box 40 (.tmp 2), _, _, _, _⟩ :: _) _ _); refine wpList_box_blk rfl 40 _ rfl (kArr k) rfl ?_; intro wk hB hL hs; replace cur := cur.push hL hB (Nat.le_refl _) rfl; clear hB hL hs) | ((with_reducible show wpList _ _ _ (⟨_, .box 36 (.tmp 3), _, _, _, _⟩ :: _) _ _); refine wpList_box_blk rfl 36 _ rfl (vArr v) rfl ?_; intro wv hB hL hs; replace cur := cur.push hL hB (Nat.le_refl _) rfl; clear hB hL hs) | ((with_reducible show wpList _ _ _ (⟨_, .box 36 (.tmp 4), _, _, _, _⟩ :: _) _ _); refine wpList_box_blk rfl 36 _ rfl (vArr vR1) rfl ?_; intro wr hB hL hs; replace cur := cur.push hL hB (Nat.le_refl _) rfl; clear hB hL hs) | ((with_reducible show wpList _ _ _ (⟨_, .buildSlice 116 _ _, _, _, _, _⟩ :: _) _ _); refine wpList_bs_b rfl 116 36 _ _ rfl (vArr2 v vR1) (fun w => bs116_2 v vR1 w) ?_; intro wsl hB hG; replace cur := cur.push hG hB (Nat.le_refl _) rfl; clear hB hG) | ((with_reducible show wpList _ _ _ (⟨_, .load 36 (.tmp 8), _, _, _, _⟩ :: _) _ _); refine wpList_load_blk rfl 36 _ rfl _ rfl (cur.blk 2 rfl) Tryz.row36 Tryz.size36 ?_) | ((with_reducible show wpList _ _ _ (⟨_, .load 36 (.tmp 8), _, _, _, _⟩ :: _) _ _); refine wpList_load_blk rfl 36 _ rfl _ rfl (cur.blk 1 rfl) Tryz.row36 Tryz.size36 ?_) | ((with_reducible show wpList _ _ _ (⟨_, .load 36 (.tmp 9), _, _, _, _⟩ :: _) _ _); refine wpList_load_blk rfl 36 _ rfl _ rfl (cur.blk 1 rfl) Tryz.row36 Tryz.size36 ?_) | ((with_reducible show wpList _ _ _ (⟨_, .load 36 (.tmp 9), _, _, _, _⟩ :: _) _ _); refine wpList_load_blk rfl 36 _ rfl _ rfl (cur.blk 0 rfl) Tryz.row36 Tryz.size36 ?_) | ((with_reducible show wpList _ _ _ (⟨_, .load 40 (.tmp 7), _, _, _, _⟩ :: _) _ _); refine wpList_load_blk rfl 40 _ rfl _ rfl (cur.blk 3 rfl) Tryz.row40 Tryz.size40 ?_) | (go_at_call 55; refine (wrongv_key cur.s [v, vR1] _ 2 2 rfl (by decide) (vals2 (cur.blk 0 rfl)) (by intro u hu; rcases List.mem_cons.1 hu with rfl | hu; exact HNV.out; rcases List.mem_cons.1 hu with rfl | hu; exact HNR.out; cases hu) k _ (cur.blk 3 rfl) HG.out).mono ?_; rw [HW.out]; rintro e wX ⟨rfl, hb'⟩; replace cur := cur.next hb'; clear hb') | (go_at_call 57; refine (seset cur.s (hQ.keeps cur.k) hmv hf k v HX.out.1 HX.out.2.1 HX.out.2.2.1 HG.out HGD.out HNV.out HX.out.2.2.2.1 HX.out.2.2.2.2.1 HX.out.2.2.2.2.2).mono ?_; rintro e wY ⟨bx, fx, Lx, tpx, rfl, s9, k9, hset⟩; replace cur := cur.go s9 k9; clear s9 k9))
    go_ret2
    exact ⟨_, fx, Lx, tpx, rfl, cur.s, cur.k, by have := hset.1; omega, hset.2.imp id fun h => ⟨HGD.out, h⟩⟩
  · have hne1 : (n == 0) = false := by simpa using hn0
    have hne2 : (n != 0) = true := by simpa using hn0
    go_enter Tryz.func15, Tryz.ntmps15
    go_wp2_with (first | ((with_reducible show wpList _ _ _ (⟨_, .box 40 (.tmp 2), _, _, _, _⟩ :: _) _ _); refine wpList_box_blk rfl 40 _ rfl (kArr k) rfl ?_; intro wk hB hL hs; replace cur := cur.push hL hB (Nat.le_refl _) rfl; clear hB hL hs) | ((with_reducible show wpList _ _ _ (⟨_, .box 36 (.tmp 3), _, _, _, _⟩ :: _) _ _); refine wpList_box_blk rfl 36 _ rfl (vArr v) rfl ?_; intro wv hB hL hs; replace cur := cur.push hL hB (Nat.le_refl _) rfl; clear hB hL hs) | ((with_reducible show wpList _ _ _ (⟨_, .box 36 (.tmp 4), _, _, _, _⟩ :: _) _ _); refine wpList_box_blk rfl 36 _ rfl (vArr vR1) rfl ?_; intro wr hB hL hs; replace cur := cur.push hL hB (Nat.le_refl _) rfl; clear hB hL hs) | ((with_reducible show wpList _ _ _ (⟨_, .buildSlice 116 _ _, _, _, _, _⟩ :: _) _ _); refine wpList_bs_b rfl 116 36 _ _ rfl (vArr2 v vR1) (fun w => bs116_2 v vR1 w) ?_; intro wsl hB hG; replace cur := cur.push hG hB (Nat.le_refl _) rfl; clear hB hG) | ((with_reducible show wpList _ _ _ (⟨_, .load 36 (.tmp 8), _, _, _, _⟩ :: _) _ _); refine wpList_load_blk rfl 36 _ rfl _ rfl (cur.blk 2 rfl) Tryz.row36 Tryz.size36 ?_) | ((with_reducible show wpList _ _ _ (⟨_, .load 36 (.tmp 8), _, _, _, _⟩ :: _) _ _); refine wpList_load_blk rfl 36 _ rfl _ rfl (cur.blk 1 rfl) Tryz.row36 Tryz.size36 ?_) | ((with_reducible show wpList _ _ _ (⟨_, .load 36 (.tmp 9), _, _, _, _⟩ :: _) _ _); refine wpList_load_blk rfl 36 _ rfl _ rfl (cur.blk 1 rfl) Tryz.row36 Tryz.size36 ?_) | ((with_reducible show wpList _ _ _ (⟨_, .load 36 (.tmp 9), _, _, _, _⟩ :: _) _ _); refine wpList_load_blk rfl 36 _ rfl _ rfl (cur.blk 0 rfl) Tryz.row36 Tryz.size36 ?_) | ((with_reducible show wpList _ _ _ (⟨_, .load 40 (.tmp 7), _, _, _, _⟩ :: _) _ _); refine wpList_load_blk rfl 40 _ rfl _ rfl (cur.blk 3 rfl) Tryz.row40 Tryz.size40 ?_) | (go_at_call 55; refine (wrongv_key cur.s [v, vR1] _ 2 2 rfl (by decide) (vals2 (cur.blk 0 rfl)) (by intro u hu; rcases List.mem_cons.1 hu with rfl | hu; exact HNV.out; rcases List.mem_cons.1 hu with rfl | hu; exact HNR.out; cases hu) k _ (cur.blk 3 rfl) HG.out).mono ?_; rw [HW.out]; rintro e wX ⟨rfl, hb'⟩; replace cur := cur.next hb'; clear hb'))
    go_ret2
    exact ⟨_, fuel, L, tp, rfl, cur.s, cur.k, by omega, .inl rfl⟩
theorem sddel {n0 : Nat} {w : World} {hb : Nat} {ov : Value} {ob : Nat} {tp : Option Addr} {cap fuel deep : Int} {kd : Kd} {ext : Bool} {L : List (Ky × Ds)} (s : StX n0 w hb ov ob tp cap fuel deep kd ext L) {xb g uc : Nat} {sb : ByteArray} {A : Option Addr} {U : List Int} (hQ : SAt w xb sb g uc A U) (hmv : kd.mv = .iface 103 (.pointer (some ⟨xb, 0, none⟩))) (hf : Can fuel deep kd) (k : Ky) (hg : kgood k = true) (hne : delLS L U k ≠ []) : Calls Tryz.prog 17 #[.pointer (some ⟨hb, 0, none⟩), .int .i64 1, .agg (kArr k)] w (DidS (.tuple #[.bool (delBS L U k), .nilIface]) n0 w hb ov ob cap (fuel - 1) deep kd ext (delLS L U k)) := by
  have HG := Lib.hid hg
  have cur := Bag.start s
  clear s hg
  go_enter Tryz.func17, Tryz.ntmps17
  go_wp2_with (first | ((with_reducible show wpList _ _ _ (⟨_, .box 40 _, _, _, _, _⟩ :: _) _ _); refine wpList_box_blk rfl 40 _ rfl (kArr k) rfl ?_; intro wc hB hL hs; replace cur := cur.push hL hB (Nat.le_refl _) rfl; clear hB hL hs) | (go_at_call 55; refine (wrong_key cur.s k w.heap.size (cur.blk 0 rfl)).mono ?_; rw [HG.out]; rintro e wX ⟨rfl, hb'⟩; replace cur := cur.next hb'; clear hb') | ((with_reducible show wpList _ _ _ (⟨_, .load 40 (.tmp 5), _, _, _, _⟩ :: _) _ _); refine wpList_load_blk rfl 40 _ rfl _ rfl (cur.blk 0 rfl) Tryz.row40 Tryz.size40 ?_) | (go_at_call 60; refine (sedel cur.s (hQ.keeps cur.k) hmv hf k hne).mono ?_; rintro e wY ⟨tp', rfl, s9, k9⟩; replace cur := cur.go s9 k9))
  go_ret2
  exact ⟨tp', rfl, cur.s, cur.k⟩
theorem sdprev {n0 : Nat} {w : World} {hb : Nat} {ov : Value} {ob : Nat} {tp : Option Addr} {cap fuel deep : Int} {kd : Kd} {ext : Bool} {L : List (Ky × Ds)} (s : StX n0 w hb ov ob tp cap fuel deep kd ext L) {xb g uc : Nat} {sb : ByteArray} {A : Option Addr} {U : List Int} (hQ : SAt w xb sb g uc A U) (hmv : kd.mv = .iface 103 (.pointer (some ⟨xb, 0, none⟩))) (hf : Can fuel deep kd) : Calls Tryz.prog 18 #[.pointer (some ⟨hb, 0, none⟩), .int .i64 1] w (DidS (.tuple #[.bool true, .nilIface]) n0 w hb ov ob cap (fuel - 1) deep kd false L) := by
  have cur := Bag.start s
  clear s
  go_enter Tryz.func18, Tryz.ntmps18
  go_wp2_with (first | (go_at_call 55; refine (wrong_none cur.s).mono ?_; rintro e wX ⟨rfl, hb'⟩; replace cur := cur.next hb'; clear hb') | (go_at_call 61; refine (seprev cur.s (hQ.keeps cur.k) hmv hf).mono ?_; rintro e wY ⟨tp', rfl, s9, k9⟩; replace cur := cur.go s9 k9))
  go_ret2
  exact ⟨tp', rfl, cur.s, cur.k⟩
theorem sdkeys {n0 : Nat} {w : World} {hb : Nat} {ov : Value} {ob : Nat} {tp : Option Addr} {cap fuel deep : Int} {kd : Kd} {ext : Bool} {L : List (Ky × Ds)} (s : StX n0 w hb ov ob tp cap fuel deep kd ext L) {xb g uc : Nat} {sb : ByteArray} {A : Option Addr} {U : List Int} (hQ : SAt w xb sb g uc A U) (hmv : kd.mv = .iface 103 (.pointer (some ⟨xb, 0, none⟩))) (hf : Can fuel deep kd) (hP : PowK n0 w) (hg : LGood L) (hneL : L ≠ []) (hlen : L.length ≤ 1000000) : Calls Tryz.prog 20 #[.pointer (some ⟨hb, 0, none⟩), .int .i64 1] w fun e w' => ∃ v tp, e = .returned (.tuple #[v, .nilIface]) ∧ KeysAt w' 0 v (keysS U.length L) ∧ StX n0 w' hb ov ob tp cap (fuel - 1) deep kd ext L ∧ Keeps n0 w w' := by
  have cur := Bag.start s
  clear s
  go_enter Tryz.func20, Tryz.ntmps20
  go_wp2_with (first | (go_at_call 55; refine (wrong_none cur.s).mono ?_; rintro e wX ⟨rfl, hb'⟩; replace cur := cur.next hb'; clear hb') | (go_at_call 63; refine (sekeys cur.s (hQ.keeps cur.k) hmv hf (hP.keeps cur.k) hg hneL hlen).mono ?_; rintro e wY ⟨v, tp', rfl, hk, s9, k9⟩; replace cur := cur.go s9 k9))
  go_ret2
  exact ⟨v, tp', rfl, hk, cur.s, cur.k⟩
theorem sdval {n0 : Nat} {w : World} {hb : Nat} {ov : Value} {ob : Nat} {tp : Option Addr} {cap fuel deep : Int} {kd : Kd} {ext : Bool} {L : List (Ky × Ds)} (s : StX n0 w hb ov ob tp cap fuel deep kd ext L) {xb g uc : Nat} {sb : ByteArray} {A : Option Addr} {U : List Int} (hQ : SAt w xb sb g uc A U) (hmv : kd.mv = .iface 103 (.pointer (some ⟨xb, 0, none⟩))) (hf : Can fuel deep kd) (k : Ky) (hg : kgood k = true) (d : Ds) (ho : ownS L U k = some d) (hdt : (Dc.kindB uvalid d && Dc.kindN uvalid d == 1) = true) (hnd : Nums d) : Calls Tryz.prog 21 #[.pointer (some ⟨hb, 0, none⟩), .int .i64 1, .agg (kArr k), .agg (vArr vN)] w (DidS (.tuple #[.agg (vArr d.val), .nilIface]) n0 w hb ov ob cap (fuel - 1) deep kd ext L) := by
  have HG := Lib.hid hg
  have HNV := Lib.hid (show vN.num < 2 ^ 64 by decide)
  have HW := Lib.hid (show wrongV [vN] = 0 by kernel_rfl)
  have cur := Bag.start s
  clear s hg
  go_enter Tryz.func21, Tryz.ntmps21
  go_wp2_with (first | ((with_reducible show wpList _ _ _ (⟨_, .box 40 (.tmp 2), _, _, _, _⟩ :: _) _ _); refine wpList_box_blk rfl 40 _ rfl (kArr k) rfl ?_; intro wk hB hL hs; replace cur := cur.push hL hB (Nat.le_refl _) rfl; clear hB hL hs) | ((with_reducible show wpList _ _ _ (⟨_, .box 36 (.tmp 3), _, _, _, _⟩ :: _) _ _); refine wpList_box_blk rfl 36 _ rfl (vArr vN) rfl ?_; intro wv hB hL hs; replace cur := cur.push hL hB (Nat.le_refl _) rfl; clear hB hL hs) | ((with_reducible show wpList _ _ _ (⟨some 8, .alloc 36, _, _, _, _⟩ :: _) _ _); refine wpList_alloc_blk rfl 36 rfl (vArr Dc.v0) zero36 ?_; intro wr hB hL hs; have hler := cur.k.size; replace cur := cur.push hL hB (Nat.le_refl _) rfl; clear hB hL hs) | ((with_reducible show wpList _ _ _ (⟨_, .buildSlice 116 _ _, _, _, _, _⟩ :: _) _ _); refine wpList_bs_b rfl 116 36 _ _ rfl (vArr vN) (fun w => bs116_1 vN w) ?_; intro wsl hB hG; replace cur := cur.push hG hB (Nat.le_refl _) rfl; clear hB hG) | ((with_reducible show wpList _ _ _ (⟨_, .load 40 (.tmp 6), _, _, _, _⟩ :: _) _ _); refine wpList_load_blk rfl 40 _ rfl _ rfl (cur.blk 3 rfl) Tryz.row40 Tryz.size40 ?_) | ((with_reducible show wpList _ _ _ (⟨_, .load 36 (.tmp 7), _, _, _, _⟩ :: _) _ _); refine wpList_load_blk rfl 36 _ rfl _ rfl (cur.blk 1 rfl) Tryz.row36 Tryz.size36 ?_) | ((with_reducible show wpList _ _ _ (⟨_, .load 36 (.tmp 7), _, _, _, _⟩ :: _) _ _); refine wpList_load_blk rfl 36 _ rfl _ rfl (cur.blk 2 rfl) Tryz.row36 Tryz.size36 ?_) | (go_at_call 55; refine (wrongv_key cur.s [vN] _ 1 1 rfl (by decide) (vals1 (cur.blk 0 rfl)) (by intro u hu; rcases List.mem_cons.1 hu with rfl | hu; exact HNV.out; cases hu) k _ (cur.blk 3 rfl) HG.out).mono ?_; rw [HW.out]; rintro e wX ⟨rfl, hb'⟩; replace cur := cur.next hb'; clear hb') | (go_at_call 64; refine (seval cur.s (hQ.keeps cur.k) hmv hf k vN d ho hdt hnd).mono ?_; rintro e wY ⟨tp', rfl, s9, k9⟩; replace cur := cur.go s9 k9; clear s9 k9) | ((with_reducible show wpList _ _ _ (⟨_, .store 36 (.tmp 8) _, _, _, _, _⟩ :: _) _ _); refine wpList_store_blk rfl 36 _ _ rfl _ (vArr d.val) _ 36 rfl rfl (cur.blk 1 rfl) Tryz.size36 rfl (vArr_one _) ?_; intro wg hB hO; replace cur := cur.set 1 rfl hO hB hler; clear hB hO))
  exact bodyPost_ret (results_cell_tmp Tryz.results21 rfl (cur.blk 1 rfl) Tryz.row36 Tryz.size36) rfl ⟨tp', rfl, cur.s, cur.k⟩
theorem sdown {n0 : Nat} {w : World} {hb : Nat} {ov : Value} {ob : Nat} {tp : Option Addr} {cap fuel deep : Int} {kd : Kd} {ext : Bool} {L : List (Ky × Ds)} (s : StX n0 w hb ov ob tp cap fuel deep kd ext L) {xb g uc : Nat} {sb : ByteArray} {A : Option Addr} {U : List Int} (hQ : SAt w xb sb g uc A U) (hmv : kd.mv = .iface 103 (.pointer (some ⟨xb, 0, none⟩))) (hf : Can fuel deep kd) (k : Ky) (hg : kgood k = true) (d : Ds) (ho : ownS L U k = some d) : Calls Tryz.prog 23 #[.pointer (some ⟨hb, 0, none⟩), .int .i64 1, .agg (kArr k)] w (DidS (.tuple #[.agg (dArr d), .bool true, .nilIface]) n0 w hb ov ob cap (fuel - 1) deep kd ext L) := by
  have HG := Lib.hid hg
  have hdo : (ownS L U k).getD Dc.d0 = d := by rw [ho]; rfl
  have hbo : (ownS L U k).isSome = true := by rw [ho]; rfl
  have cur := Bag.start s
  clear s hg
  go_enter Tryz.func23, Tryz.ntmps23
  go_wp2_with (first | ((with_reducible show wpList _ _ _ (⟨_, .box 40 _, _, _, _, _⟩ :: _) _ _); refine wpList_box_blk rfl 40 _ rfl (kArr k) rfl ?_; intro wc hB hL hs; replace cur := cur.push hL hB (Nat.le_refl _) rfl; clear hB hL hs) | ((with_reducible show wpList _ _ _ (⟨some 6, .alloc 43, _, _, _, _⟩ :: _) _ _); refine wpList_alloc_blk rfl 43 rfl (dArr Dc.d0) zero43 ?_; intro wr hB hL hs; have hler := cur.k.size; replace cur := cur.push hL hB (Nat.le_refl _) rfl; clear hB hL hs) | (go_at_call 55; refine (wrong_key cur.s k w.heap.size (cur.blk 1 rfl)).mono ?_; rw [HG.out]; rintro e wX ⟨rfl, hb'⟩; replace cur := cur.next hb'; clear hb') | ((with_reducible show wpList _ _ _ (⟨_, .load 40 (.tmp 5), _, _, _, _⟩ :: _) _ _); refine wpList_load_blk rfl 40 _ rfl _ rfl (cur.blk 1 rfl) Tryz.row40 Tryz.size40 ?_) | (go_at_call 66; refine (seget0 cur.s (hQ.keeps cur.k) hmv hf k d true hdo hbo).mono ?_; rintro e wY ⟨tp', rfl, s9, k9⟩; replace cur := cur.go s9 k9) | ((with_reducible show wpList _ _ _ (⟨_, .store 43 (.tmp 6) _, _, _, _, _⟩ :: _) _ _); refine wpList_store_blk rfl 43 _ _ rfl _ (dArr d) _ 43 rfl rfl (cur.blk 0 rfl) Tryz.size43 rfl (dCells_one _) ?_; intro wg hB hO; replace cur := cur.set 0 rfl hO hB hler; clear hB hO))
  exact bodyPost_ret (results_cell_tmp2 Tryz.results23 rfl (cur.blk 0 rfl) Tryz.row43 Tryz.size43) rfl ⟨tp', rfl, cur.s, cur.k⟩


end Go.Proofs.YtoalboilghgalaaGreatDoor

/- The empty heap of depth 5: New, Room, Add of a String object; Check of the null value. -/
namespace Go.Proofs.YtoalboilghgalaaGreatDoor
open Go.RowKit
open Go.Proofs.Dc (V Ds Ky)
attribute [local go_sem] run_store_float

attribute [local go_sem] Oper.semAt_some
theorem Tryz.info138 : (Tryz.prog.info? 138).map (fun i => (i.zero, i.size, i.bytes)) = some (some (.pointer none), 1, 8) := by kernel_rfl
/-- the heap holds one String object, without a property -/
def MadeS (xb : Nat) (bg : Int) (n0 : Nat) (w : World) (hb : Nat) (c f : Int) (e : Ending) (w' : World) : Prop := ∃ ov ob, e = .returned (.tuple #[.int .i64 1, .nilIface]) ∧ StX n0 w' hb ov ob none c f 0 (kS 5 bg xb) true [] ∧ Keeps n0 w w'
theorem Blk.drewB {W : World} {b : Nat} {C : Array Value} {t : TypeId} (h : Blk W b C t) : Blk W.drew b C t := h
theorem new5 (c f : Int) (w : World) (h0 : 0 ≤ c) (h1 : c ≤ 65536) (h2 : 0 ≤ f) : Calls Tryz.prog 8 #[.int .i64 c, .int .i64 f, .int .i64 5] w fun e w' => e = .returned (.tuple #[.pointer (some ⟨w.heap.size, 0, none⟩), .int .i64 0]) ∧ Blk w' w.heap.size (hArr c f 5 0 (.slice none 0 0)) 102 ∧ Below w.heap.size w w' := by
  have h3 : ¬ c < 0 := by omega
  have h4 : ¬ 65536 < c := by omega
  have h5 : ¬ f < 0 := by omega
  go_enter Tryz.func8, Tryz.ntmps8
  go_wp2_with ((with_reducible show wpList _ _ _ (⟨_, .box 102 _, _, _, _, _⟩ :: _) _ _); refine wpList_box_blk rfl 102 _ rfl (hArr c f 5 0 (.slice none 0 0)) rfl ?_; intro w1 hH hL hs)
  go_ret2
  exact ⟨rfl, hH, hL⟩
theorem nlost (hb : Nat) (w : World) : Calls Tryz.prog 92 #[.pointer (some ⟨hb, 0, none⟩), .agg (vArr vN)] w fun e w' => e = .returned (.bool false) ∧ Below w.heap.size w w' := by
  have hk : vN.kind = 2 := rfl
  go_enter Tryz.func92, Tryz.ntmps92
  go_wp2_with ((with_reducible show wpList _ _ _ (⟨_, .box 36 _, _, _, _, _⟩ :: _) _ _); refine wpList_box_blk rfl 36 _ rfl (vArr vN) rfl ?_; intro w1 hV hL hs; clear hs; have hcV := hV.cellV)
  go_ret
  exact ⟨rfl, hL⟩

theorem ncheck (hb : Nat) (w : World) (hT : Tabs w) : Calls Tryz.prog 43 #[.pointer (some ⟨hb, 0, none⟩), .agg (vArr vN)] w fun e w' => e = .returned (.int .i64 0) ∧ Below w.heap.size w w' := by
  have HC : Hid (∀ W, Tabs W → Calls Tryz.prog 40 #[.agg (vArr vN)] W fun e w' => e = .returned (.int .i64 0) ∧ Below W.heap.size W w') := Lib.hid fun W hT => by
    have := check_any vN W hT (by decide)
    rw [show Dc.good uvalid vN = true by decide, if_pos rfl] at this
    exact this
  go_enter Tryz.func43, Tryz.ntmps43
  go_wp2_with (first | ((with_reducible show wpList _ _ _ (⟨_, .box 36 _, _, _, _, _⟩ :: _) _ _); refine wpList_box_blk rfl 36 _ rfl (vArr vN) rfl ?_; intro w1 hV hL hs; clear hs; have hcV := hV.cellV) | ((with_reducible show wpList _ _ _ (⟨_, .load 36 _, _, _, _, _⟩ :: _) _ _); refine wpList_load_blk rfl 36 _ rfl _ rfl hV Tryz.row36 Tryz.size36 ?_) | (go_at_call 40; refine (HC.out _ (hT.below hL)).mono ?_; rintro e w2 ⟨rfl, hb2⟩; replace hV := hV.next hb2; replace hL := hL.trans (hb2.mono hL.size)) | (go_at_call 92; refine (nlost hb _).mono ?_; rintro e w3 ⟨rfl, hb3⟩))
  go_ret
  exact ⟨rfl, hL.trans (hb3.mono hL.size)⟩

theorem room5 (hb : Nat) (c f : Int) (w : World) (h1 : 1 ≤ c) (hH : Blk w hb (hArr c f 5 0 (.slice none 0 0)) 102) : Calls Tryz.prog 101 #[.pointer (some ⟨hb, 0, none⟩)] w fun e w' => e = .returned (.int .i64 0) ∧ Below w.heap.size w w' := by
  have hc := hH.cellH
  have h2 : ¬ c ≤ 0 := by omega
  clear hH
  go_enter Tryz.func101, Tryz.ntmps101
  go_wp2
  go_region
  go_wp2
  go_ret
  exact ⟨rfl, (Below.refl _ _).drew⟩

theorem addS (n0 hb xb : Nat) (bg : Int) (c f : Int) (w : World) (hn : n0 ≤ w.heap.size) (hnb : n0 ≤ hb) (hT : Tabs w) (htn : Tryz.lays197_ren.g 3 < n0 ∧ Tryz.lays197_ren.g 4 < n0) (h1 : 1 ≤ c) (hbd : bg ≤ 1000000 ∧ 0 ≤ f ∧ f ≤ bg) (hH : Blk w hb (hArr c f 5 0 (.slice none 0 0)) 102) : Calls Tryz.prog 50 #[.pointer (some ⟨hb, 0, none⟩), .int .i64 5, .agg (vArr vN), .iface 103 (.pointer (some ⟨xb, 0, none⟩)), .iface 103 (.pointer (some ⟨xb, 0, none⟩))] w fun e w' => MadeS xb bg n0 w hb c f e w' := by
  obtain ⟨i0, hi0, hz0, hz1, hz2⟩ := info_parts Tryz.info138
  have hnew : ∀ w2 : World, (((w2.alloc (.cells (oArr (kS 5 bg xb) true none) 146)).alloc (.cells #[.pointer (some ⟨w2.heap.size, 0, none⟩)] 138)).drew).heap[w2.heap.size + 1]? = some (.cells #[.pointer (some ⟨w2.heap.size, 0, none⟩)] 138 (0, 0)) := fun w2 => by
    have h := heap_alloc_new (w2.alloc (.cells (oArr (kS 5 bg xb) true none) 146)) (.cells #[.pointer (some ⟨w2.heap.size, 0, none⟩)] 138)
    rw [show (w2.alloc (.cells (oArr (kS 5 bg xb) true none) 146)).heap.size = w2.heap.size + 1 by simp] at h
    exact h
  replace hnew := Lib.hid hnew
  have HBD := Lib.hid hbd
  clear hbd
  go_enter Tryz.func50, Tryz.ntmps50
  go_wp2_with (first | ((with_reducible show wpList _ _ _ (⟨_, .box 36 _, _, _, _, _⟩ :: _) _ _); refine wpList_box_blk rfl 36 _ rfl (vArr vN) rfl ?_; intro w1 hV hL hs; clear hs; have hH1 := hH.next hL) | (go_at_call 101; refine (room5 hb c f _ h1 hH1).mono ?_; rintro e w2 ⟨rfl, hb2⟩; replace hV := hV.next hb2; have hH2 := hH1.next hb2; have hcH := hH2.cellH))
  refine Ord.region (fun W => W.cell? ⟨hb, 4, none⟩ = some (.slice none 0 0) ∧ Blk W w.heap.size (vArr vN) 36) [] (by kernel_rfl) ⟨hcH 4, hV⟩ ?_
  intro hS
  refine Ord.tp 0 19 rfl rfl ?_
  refine Ord.tp 1 20 rfl rfl ?_
  refine Ord.tp 2 21 rfl rfl ?_
  refine Ord.tp 3 22 rfl rfl ?_
  refine Ord.tp 4 23 rfl rfl ?_
  refine Ord.tp 5 24 rfl rfl ?_
  refine Ord.tk 6 25 rfl rfl (yieldsIf_load_mid (by rfl) 36 _ rfl w.heap.size 0 rfl [.int .i64 2, .bool false, .float .f64 0, .string ByteArray.empty, .int .i64 0] _ (fun W hSW => range_all hSW.2) Tryz.underlying36 rfl Tryz.size36) ?_
  refine Ord.tp 7 26 rfl rfl ?_
  refine Ord.tp 8 27 rfl rfl ?_
  refine Ord.tp 9 28 rfl rfl ?_
  refine Ord.step (i := 10) rfl (by kernel_rfl) (by rfl) ?_
  intro K HK
  go_simp
  refine HK.out _ _ ?_
  clear HK
  refine Ord.kp ?_ ?_
  · exact ⟨(hH2.drewB.alloc _).cellH 4, (hV.drewB).alloc _⟩
  clear hS
  intro hS
  try simp only [List.setIfInBounds_toArray, List.set_cons_zero, List.set_cons_succ]
  refine Ord.step (i := 11) rfl (by kernel_rfl) (by rfl) ?_
  intro K HK
  go_simp
  refine HK.out _ _ ?_
  clear HK
  refine Ord.kp ?_ ?_
  · exact ⟨((hH2.drewB.alloc _).alloc _).cellH 4, ((hV.drewB).alloc _).alloc _⟩
  clear hS
  intro hS
  try simp only [List.setIfInBounds_toArray, List.set_cons_zero, List.set_cons_succ]
  refine Ord.step (i := 12) rfl (by kernel_rfl) (by rfl) ?_
  intro K HK
  refine wp_append_lies _ (.tmp 23) (.tmp 30) 100 rfl n0 138 i0 _ 1 _ Tryz.underlying100 hi0 hz0 hz1 hz2 rfl (by decide) (.slice none 0 0) 0 [] rfl ⟨rfl, .inl ⟨rfl, rfl⟩⟩ ⟨w2.heap.size + 1, 0, none⟩ 1 1 [.pointer (some ⟨w2.heap.size, 0, none⟩)] rfl rfl (World.news_of_block (cs := #[.pointer (some ⟨w2.heap.size, 0, none⟩)]) (t := 138) (fr := (0, 0)) (hnew.out w2)) (by simp [Value.oneCell']) (by decide) (by decide) (by decide) (by have := hL.size; have := hb2.size; simp; omega) _ rfl ?_
  intro g cp w4 hown4 hgr4 hat4 hlt4
  have hb4 := below_grown0 hgr4
  have hH4 := (show Blk (((w2.alloc _).alloc _)).drew hb _ 102 from ((hH2.alloc _).alloc _).drewB).next hb4
  have hV4 := (show Blk (((w2.alloc _).alloc _)).drew w.heap.size _ 36 from ((hV.alloc _).alloc _).drewB).next hb4
  refine HK.out _ _ ?_
  clear HK
  refine Ord.kp ?_ ?_
  · exact ⟨hH4.cellH 4, hV4⟩
  clear hS
  intro hS
  try simp only [List.setIfInBounds_toArray, List.set_cons_zero, List.set_cons_succ]
  refine Ord.tp 13 32 rfl rfl ?_
  refine Ord.tp 14 33 rfl rfl ?_
  refine Ord.step (i := 15) rfl (by kernel_rfl) (by rfl) ?_
  intro K HK
  have hcH4 := hH4.cellH
  have hfH4 := hH4.frozen
  go_simp
  refine HK.out _ _ ?_
  clear HK
  refine ⟨Ord.np (by kernel_rfl), ?_⟩
  try simp only [List.setIfInBounds_toArray, List.set_cons_zero, List.set_cons_succ]
  refine Ord.done (by kernel_rfl) ?_ _
  obtain ⟨hH5, hO5⟩ := only_setCell (o := 4) (v := .slice (some ⟨g, 0, none⟩) 1 cp) hH4
  have hO4 : Blk w4 w2.heap.size (oArr (kS 5 bg xb) true none) 146 := (show Blk (((w2.alloc _).alloc _)).drew w2.heap.size _ 146 from ((Blk.new w2 (oArr (kS 5 bg xb) true none) 146).alloc _).drewB).next hb4
  have hown5 : w4.ownsRow n0 138 1 (.slice (some ⟨g, 0, none⟩) 1 cp) 1 [.pointer (some ⟨w2.heap.size, 0, none⟩)] := hown4
  have hb14 : Below w.heap.size w w4 := by
    have h12 := hL.trans (hb2.mono hL.size)
    have h3 : Below w2.heap.size w2 (((w2.alloc (.cells (oArr (kS 5 bg xb) true none) 146)).alloc (.cells #[.pointer (some ⟨w2.heap.size, 0, none⟩)] 138)).drew) := (((Below.refl _ w2).alloc (Nat.le_refl _) _).alloc (by simp) _).drew
    exact h12.trans ((h3.trans (hb4.mono h3.size)).mono h12.size)
  obtain ⟨W5, hW5⟩ : ∃ W5, W5 = w4.setCell ⟨hb, 4, none⟩ (.slice (some ⟨g, 0, none⟩) 1 cp) := ⟨_, rfl⟩
  rw [← hW5] at hH5 hO5 ⊢
  have hH6 : Blk W5 hb (hArr c f 5 0 (.slice (some ⟨g, 0, none⟩) 1 cp)) 102 := hH5
  have hc6 := hH6.cellH
  have h12 := hL.trans (hb2.mono hL.size)
  have HO := Lib.hid (And.intro hown5 (And.intro hO4 (And.intro hO5 (And.intro hb14 (And.intro hH4 h12)))))
  clear hW5 hH5 hown4 hown5 hO4 hO5 hcH4 hfH4 hcH hS hgr4 hat4 hb4 hH4 hV4 hlt4
  go_wp2
  go_ret2
  obtain ⟨hown5, hO4, hO5, hb14, hH4, h12⟩ := HO.out
  have hbd := HBD.out
  have hs1 := hb14.size
  have hs2 := h12.size
  have hg := ownsRow_ne hown5 hH4 (by decide)
  refine ⟨_, w2.heap.size, rfl, ⟨hH6, ownsRow_only hown5 hO5 (fun g' hg' => by simpa using hg g' hg'), hO4.only hO5 (by simpa using hO4.ne hH4 (by decide)), .inl ⟨rfl, rfl, by show 0 ≤ bg - f - 0; omega⟩, hnb, by omega, (hT.below hb14).only hO5 (by simp; omega) (by simp; omega), htn, by have := hO5.size; omega, ⟨hbd.1, hbd.2.1, by decide⟩⟩, (Keeps.of_below hb14 hn).trans (Keeps.of_only hO5 (fun b hb' => ?_) (by omega))⟩
  obtain rfl : b = hb := by simpa using hb'
  exact ⟨hnb, .inr ⟨_, hH4, rfl⟩⟩

end Go.Proofs.YtoalboilghgalaaGreatDoor

/- strobj.Data. -/
namespace Go.Proofs.YtoalboilghgalaaGreatDoor
open Go.RowKit
open Go.Proofs.Dc (V Ds Ky)
attribute [local go_sem] run_store_float

theorem slot_any {n0 : Nat} {w : World} {hb : Nat} {ov : Value} {ob : Nat} {tp : Option Addr} {cap fuel deep : Int} {kd : Kd} {ext : Bool} {L : List (Ky × Ds)} (s : StX n0 w hb ov ob tp cap fuel deep kd ext L) : Calls Tryz.prog 72 #[.pointer (some ⟨hb, 0, none⟩), .int .i64 1] w fun e w' => e = .returned kd.sv ∧ w = w' := by
  obtain ⟨g, c, rfl, hg⟩ := s.objs
  have hc := s.h.cellH
  have ho := s.o.cellO
  have cA := at_any s
  have cH := has_one s
  clear s
  go_enter Tryz.func72, Tryz.ntmps72
  go_wp2_with (first | (go_at_call 84; refine cA.mono ?_; rintro e w' ⟨rfl, rfl⟩) | (go_at_call 83; refine cH.mono ?_; rintro e w' ⟨rfl, rfl⟩))
  go_ret
  exact ⟨rfl, rfl⟩


theorem data27 {n0 : Nat} {w : World} {hb : Nat} {ov : Value} {ob : Nat} {tp : Option Addr} {cap fuel deep : Int} {kd : Kd} {ext : Bool} {L : List (Ky × Ds)} (s : StX n0 w hb ov ob tp cap fuel deep kd ext L) {xb g uc : Nat} {sb : ByteArray} {A : Option Addr} {U : List Int} (hQ : SAt w xb sb g uc A U) (hsv : kd.sv = .iface 103 (.pointer (some ⟨xb, 0, none⟩))) : Calls Tryz.prog 27 #[.pointer (some ⟨hb, 0, none⟩), .int .i64 1] w fun e w' => e = .returned (.tuple #[.string sb, .int .i64 0]) ∧ Below w.heap.size w w' := by
  have c71 := fun W (h : Below w.heap.size w W) => class_any (s.below h)
  have c72 := fun W (h : Below w.heap.size w W) => slot_any (s.below h)
  have hx0 : ∀ W, Below w.heap.size w W → W.cell? ⟨xb, 0, none⟩ = some (.string sb) := fun W h => (hQ.below h).blk.cell 0
  have hta : ∀ W, (Instr.typeAssert (.iface 103 (.pointer (some ⟨xb, 0, none⟩))) 20 103 true).run Tryz.prog W = .ok (.tuple #[.pointer (some ⟨xb, 0, none⟩), .bool true]) W := fun W => by kernel_rfl
  simp only [hsv] at c72
  clear s hQ hsv
  go_enter Tryz.func27, Tryz.ntmps27
  go_wp2_with (first | (go_at_call 71; refine (c71 _ (Below.refl _ _)).mono ?_; rintro e w1 ⟨rfl, hb1⟩; try subst hb1) | (go_at_call 72; refine (c72 _ (Below.refl _ _)).mono ?_; rintro e w2 ⟨rfl, rfl⟩; have hx := hx0 _ (Below.refl _ _)))
  go_ret2
  exact ⟨rfl, Below.refl _ _⟩


end Go.Proofs.YtoalboilghgalaaGreatDoor
