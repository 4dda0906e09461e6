/- Lemmas for this claim, in parts: Nsdoors, Nsdoors2. -/
import Derived.Test.YtoalboilghgalaaGreatDoorB37
import Derived.Test.YtoalboilghgalaaGreatDoorB40
import Derived.Test.YtoalboilghgalaaGreatDoorB41
import Derived.Test.YtoalboilghgalaaGreatDoorB39
set_option maxRecDepth 100000
set_option maxHeartbeats 4000000
set_option linter.unusedVariables false
set_option linter.unusedSimpArgs false
/- A namespace: the doors. -/
namespace Go.Proofs.YtoalboilghgalaaGreatDoor
open Go.RowKit
open Go.Proofs.Dc (V Ds Ky)
attribute [local go_sem] run_store_float

theorem kN_ok (xb : Nat) : KdOk (kN xb) where
  call := run_typeAssert_lacksB Tryz.underlying248 (by kernel_rfl) (by kernel_rfl) _ _
  shows := run_typeAssert_lacksB Tryz.underlying149 (by kernel_rfl) (by kernel_rfl) _ _
/-- behind a door: some value, some fuel less -/
def Door (n0 : Nat) (w : World) (hb : Nat) (ov : Value) (ob : Nat) (cap fuel deep : Int) (kd : Kd) (ext : Bool) (L : List (Ky × Ds)) (e : Ending) (w' : World) : Prop :=
  ∃ v tp F, e = .returned v ∧ StX n0 w' hb ov ob tp cap F deep kd ext L ∧ Keeps n0 w w' ∧ fuel - 4 ≤ F ∧ F ≤ fuel
def vArr2 (v r : V) : Array Value := #[.int .i64 v.kind, .bool v.bool, .float .f64 v.num, .string v.str, .int .i64 v.id, .int .i64 r.kind, .bool r.bool, .float .f64 r.num, .string r.str, .int .i64 r.id]
theorem bs116_1 (v : V) (w : World) : (Instr.buildSlice 116 1 #[(0, .agg #[.int .i64 v.kind, .bool v.bool, .float .f64 v.num, .string v.str, .int .i64 v.id])]).run Tryz.prog w = .ok (.slice (some ⟨w.heap.size, 0, none⟩) 1 1) (w.alloc (.cells (vArr v) 36)) := by kernel_rfl
theorem bs116_2 (v r : V) (w : World) : (Instr.buildSlice 116 2 #[(0, .agg #[.int .i64 v.kind, .bool v.bool, .float .f64 v.num, .string v.str, .int .i64 v.id]), (1, .agg #[.int .i64 r.kind, .bool r.bool, .float .f64 r.num, .string r.str, .int .i64 r.id])]).run Tryz.prog w = .ok (.slice (some ⟨w.heap.size, 0, none⟩) 2 2) (w.alloc (.cells (vArr2 v r) 36)) := by kernel_rfl
theorem vals1 {W : World} {b : Nat} {v : V} (h : Blk W b (vArr v) 36) : ValsAt W b [v] := ⟨_, h, fun i u hu j hj => by
  match i, hu with
  | 0, hu => obtain rfl : v = u := by simpa using hu
             match j, hj with
             | 0, _ => rfl
             | 1, _ => rfl
             | 2, _ => rfl
             | 3, _ => rfl
             | 4, _ => rfl
  | i + 1, hu => simp at hu⟩
theorem vals2 {W : World} {b : Nat} {v r : V} (h : Blk W b (vArr2 v r) 36) : ValsAt W b [v, r] := ⟨_, h, fun i u hu j hj => by
  match i, hu with
  | 0, hu => obtain rfl : v = u := by simpa using hu
             match j, hj with
             | 0, _ => rfl
             | 1, _ => rfl
             | 2, _ => rfl
             | 3, _ => rfl
             | 4, _ => rfl
  | 1, hu => obtain rfl : r = u := by simpa using hu
             match j, hj with
             | 0, _ => rfl
             | 1, _ => rfl
             | 2, _ => rfl
             | 3, _ => rfl
             | 4, _ => rfl
  | i + 2, hu => simp at hu⟩
theorem wrongV_num (vs : List V) : ∃ n : Int, wrongV vs = n := ⟨_, rfl⟩
theorem xdset {n0 : Nat} {w : World} {hb : Nat} {ov : Value} {ob : Nat} {tp : Option Addr} {cap fuel deep : Int} {xb : Nat} {ext : Bool} {L : List (Ky × Ds)} (s : StX n0 w hb ov ob tp cap fuel deep (kN xb) ext L) (hf : 3 < fuel ∧ fuel ≤ 9223372036854775807) (hd : 0 ≤ deep ∧ deep < 8) (k : Ky) (v r : V) (hg : kgood k = true) (hnv : v.num < 2 ^ 64) (hnr : r.num < 2 ^ 64) : Calls Tryz.prog 15 #[.pointer (some ⟨hb, 0, none⟩), .int .i64 1, .agg (kArr k), .agg (vArr v), .agg (vArr r)] w fun e w' => Door n0 w hb ov ob cap fuel deep (kN xb) ext L e w' := by
  have HF := Lib.hid hf
  have HD := Lib.hid hd
  have cur := Bag.start s
  clear s hf hd
  have HG := Lib.hid hg
  have HNV := Lib.hid hnv
  have HNR := Lib.hid hnr
  clear hg hnv hnr
  obtain ⟨n, hn⟩ := wrongV_num [v, r]
  have HW := Lib.hid hn
  clear hn
  by_cases hn0 : n = 0
  · subst hn0
    go_enter Tryz.func15, Tryz.ntmps15
    go_wp2_with (first | ((with_reducible show wpList _ _ _ (⟨_, .box 40 (.tmp 2), _, _, _, _⟩ :: _) _ _); refine wpList_box_blk rfl 40 _ rfl (kArr k) rfl ?_; intro wk hB hL hs; replace cur := cur.push hL hB (Nat.le_refl _) rfl; clear hB hL hs) | ((with_reducible show wpList _ _ _ (⟨_, .box 36 (.tmp 3), _, _, _, _⟩ :: _) _ _); refine wpList_box_blk rfl 36 _ rfl (vArr v) rfl ?_; intro wv hB hL hs; replace cur := cur.push hL hB (Nat.le_refl _) rfl; clear hB hL hs) | ((with_reducible show wpList _ _ _ (⟨_, .box 36 (.tmp 4), _, _, _, _⟩ :: _) _ _); refine wpList_box_blk rfl 36 _ rfl (vArr r) rfl ?_; intro wr hB hL hs; replace cur := cur.push hL hB (Nat.le_refl _) rfl; clear hB hL hs) | ((with_reducible show wpList _ _ _ (⟨_, .buildSlice 116 _ _, _, _, _, _⟩ :: _) _ _); refine wpList_bs_g rfl 116 36 _ _ rfl (vArr2 v r) (fun w => bs116_2 v r w) ?_; intro wsl hB hG; replace cur := cur.push hG.below hB (Nat.le_refl _) rfl; clear hB hG) | ((with_reducible show wpList _ _ _ (⟨_, .load 36 (.tmp 8), _, _, _, _⟩ :: _) _ _); refine wpList_load_blk rfl 36 _ rfl _ rfl (cur.blk 2 rfl) Tryz.row36 Tryz.size36 ?_) | ((with_reducible show wpList _ _ _ (⟨_, .load 36 (.tmp 8), _, _, _, _⟩ :: _) _ _); refine wpList_load_blk rfl 36 _ rfl _ rfl (cur.blk 1 rfl) Tryz.row36 Tryz.size36 ?_) | ((with_reducible show wpList _ _ _ (⟨_, .load 36 (.tmp 9), _, _, _, _⟩ :: _) _ _); refine wpList_load_blk rfl 36 _ rfl _ rfl (cur.blk 1 rfl) Tryz.row36 Tryz.size36 ?_) | ((with_reducible show wpList _ _ _ (⟨_, .load 36 (.tmp 9), _, _, _, _⟩ :: _) _ _); refine wpList_load_blk rfl 36 _ rfl _ rfl (cur.blk 0 rfl) Tryz.row36 Tryz.size36 ?_) | ((with_reducible show wpList _ _ _ (⟨_, .load 40 (.tmp 7), _, _, _, _⟩ :: _) _ _); refine wpList_load_blk rfl 40 _ rfl _ rfl (cur.blk 3 rfl) Tryz.row40 Tryz.size40 ?_) | (go_at_call 55; refine (wrongv_key cur.s [v, r] _ 2 2 rfl (by decide) (vals2 (cur.blk 0 rfl)) (by intro u hu; rcases List.mem_cons.1 hu with rfl | hu; exact HNV.out; rcases List.mem_cons.1 hu with rfl | hu; exact HNR.out; cases hu) k _ (cur.blk 3 rfl) HG.out).mono ?_; rw [HW.out]; rintro e wX ⟨rfl, hb'⟩; replace cur := cur.next hb'; clear hb') | (go_at_call 57; refine (xeset cur.s ⟨by have := HF.out; omega, by have := HF.out; omega⟩ (by have := HD.out; omega) k v r).mono ?_; rintro e wY ⟨tp', rfl, s9, k9⟩; replace cur := cur.go s9 k9; clear s9 k9))
    go_ret2
    exact ⟨_, tp', _, rfl, cur.s, cur.k, by have := HF.out; omega, by have := HF.out; omega⟩
  · have hne1 : (n == 0) = false := by simpa using hn0
    have hne2 : (n != 0) = true := by simpa using hn0
    go_enter Tryz.func15, Tryz.ntmps15
    go_wp2_with (first | ((with_reducible show wpList _ _ _ (⟨_, .box 40 (.tmp 2), _, _, _, _⟩ :: _) _ _); refine wpList_box_blk rfl 40 _ rfl (kArr k) rfl ?_; intro wk hB hL hs; replace cur := cur.push hL hB (Nat.le_refl _) rfl; clear hB hL hs) | ((with_reducible show wpList _ _ _ (⟨_, .box 36 (.tmp 3), _, _, _, _⟩ :: _) _ _); refine wpList_box_blk rfl 36 _ rfl (vArr v) rfl ?_; intro wv hB hL hs; replace cur := cur.push hL hB (Nat.le_refl _) rfl; clear hB hL hs) | ((with_reducible show wpList _ _ _ (⟨_, .box 36 (.tmp 4), _, _, _, _⟩ :: _) _ _); refine wpList_box_blk rfl 36 _ rfl (vArr r) rfl ?_; intro wr hB hL hs; replace cur := cur.push hL hB (Nat.le_refl _) rfl; clear hB hL hs) | ((with_reducible show wpList _ _ _ (⟨_, .buildSlice 116 _ _, _, _, _, _⟩ :: _) _ _); refine wpList_bs_g rfl 116 36 _ _ rfl (vArr2 v r) (fun w => bs116_2 v r w) ?_; intro wsl hB hG; replace cur := cur.push hG.below hB (Nat.le_refl _) rfl; clear hB hG) | ((with_reducible show wpList _ _ _ (⟨_, .load 36 (.tmp 8), _, _, _, _⟩ :: _) _ _); refine wpList_load_blk rfl 36 _ rfl _ rfl (cur.blk 2 rfl) Tryz.row36 Tryz.size36 ?_) | ((with_reducible show wpList _ _ _ (⟨_, .load 36 (.tmp 8), _, _, _, _⟩ :: _) _ _); refine wpList_load_blk rfl 36 _ rfl _ rfl (cur.blk 1 rfl) Tryz.row36 Tryz.size36 ?_) | ((with_reducible show wpList _ _ _ (⟨_, .load 36 (.tmp 9), _, _, _, _⟩ :: _) _ _); refine wpList_load_blk rfl 36 _ rfl _ rfl (cur.blk 1 rfl) Tryz.row36 Tryz.size36 ?_) | ((with_reducible show wpList _ _ _ (⟨_, .load 36 (.tmp 9), _, _, _, _⟩ :: _) _ _); refine wpList_load_blk rfl 36 _ rfl _ rfl (cur.blk 0 rfl) Tryz.row36 Tryz.size36 ?_) | ((with_reducible show wpList _ _ _ (⟨_, .load 40 (.tmp 7), _, _, _, _⟩ :: _) _ _); refine wpList_load_blk rfl 40 _ rfl _ rfl (cur.blk 3 rfl) Tryz.row40 Tryz.size40 ?_) | (go_at_call 55; refine (wrongv_key cur.s [v, r] _ 2 2 rfl (by decide) (vals2 (cur.blk 0 rfl)) (by intro u hu; rcases List.mem_cons.1 hu with rfl | hu; exact HNV.out; rcases List.mem_cons.1 hu with rfl | hu; exact HNR.out; cases hu) k _ (cur.blk 3 rfl) HG.out).mono ?_; rw [HW.out]; rintro e wX ⟨rfl, hb'⟩; replace cur := cur.next hb'; clear hb'))
    go_ret2
    exact ⟨_, tp, _, rfl, cur.s, cur.k, by have := HF.out; omega, by have := HF.out; omega⟩

theorem xdproto {n0 : Nat} {w : World} {hb : Nat} {ov : Value} {ob : Nat} {tp : Option Addr} {cap fuel deep : Int} {xb : Nat} {ext : Bool} {L : List (Ky × Ds)} (s : StX n0 w hb ov ob tp cap fuel deep (kN xb) ext L) (hf : 3 < fuel ∧ fuel ≤ 9223372036854775807) (hd : 0 ≤ deep ∧ deep < 8) : Calls Tryz.prog 46 #[.pointer (some ⟨hb, 0, none⟩), .int .i64 1, .agg (vArr vN)] w fun e w' => Door n0 w hb ov ob cap fuel deep (kN xb) ext L e w' := by
  have HF := Lib.hid hf
  have HD := Lib.hid hd
  have cur := Bag.start s
  clear s hf hd
  have HW := Lib.hid (show wrongV [vN] = 0 by kernel_rfl)
  have HNV := Lib.hid (show vN.num < 2 ^ 64 by decide)
  go_enter Tryz.func46, Tryz.ntmps46
  go_wp2_with (first | ((with_reducible show wpList _ _ _ (⟨_, .box 36 (.tmp 2), _, _, _, _⟩ :: _) _ _); refine wpList_box_blk rfl 36 _ rfl (vArr vN) rfl ?_; intro wv hB hL hs; replace cur := cur.push hL hB (Nat.le_refl _) rfl; clear hB hL hs) | ((with_reducible show wpList _ _ _ (⟨_, .buildSlice 116 _ _, _, _, _, _⟩ :: _) _ _); refine wpList_bs_g rfl 116 36 _ _ rfl (vArr vN) (fun w => bs116_1 vN w) ?_; intro wsl hB hG; replace cur := cur.push hG.below hB (Nat.le_refl _) rfl; clear hB hG) | ((with_reducible show wpList _ _ _ (⟨_, .load 36 (.tmp 5), _, _, _, _⟩ :: _) _ _); refine wpList_load_blk rfl 36 _ rfl _ rfl (cur.blk 1 rfl) Tryz.row36 Tryz.size36 ?_) | ((with_reducible show wpList _ _ _ (⟨_, .load 36 (.tmp 5), _, _, _, _⟩ :: _) _ _); refine wpList_load_blk rfl 36 _ rfl _ rfl (cur.blk 0 rfl) Tryz.row36 Tryz.size36 ?_) | (go_at_call 55; refine (wrongv_none cur.s [vN] _ 1 1 rfl (by decide) (vals1 (cur.blk 0 rfl)) (by intro u hu; rcases List.mem_cons.1 hu with rfl | hu; exact HNV.out; cases hu)).mono ?_; rw [HW.out]; rintro e wX ⟨rfl, hb'⟩; replace cur := cur.next hb'; clear hb') | (go_at_call 95; refine (nbase hb _ cur.s.tabs).mono ?_; rintro e wB ⟨rfl, hb'⟩; replace cur := cur.next hb'; clear hb') | (go_at_call 96; refine (xesproto cur.s ⟨by have := HF.out; omega, by have := HF.out; omega⟩ (by have := HD.out; omega) vN).mono ?_; rintro e wY ⟨tp', rfl, s9, k9⟩; replace cur := cur.go s9 k9; clear s9 k9))
  go_ret2
  exact ⟨_, tp', _, rfl, cur.s, cur.k, by have := HF.out; omega, by have := HF.out; omega⟩

theorem xdprev {n0 : Nat} {w : World} {hb : Nat} {ov : Value} {ob : Nat} {tp : Option Addr} {cap fuel deep : Int} {xb : Nat} {ext : Bool} {L : List (Ky × Ds)} (s : StX n0 w hb ov ob tp cap fuel deep (kN xb) ext L) (hf : 3 < fuel ∧ fuel ≤ 9223372036854775807) (hd : 0 ≤ deep ∧ deep < 8) {g xc : Nat} {a : Option Addr} {l : List Ex} (hX : XAt w xb g xc a l) : Calls Tryz.prog 18 #[.pointer (some ⟨hb, 0, none⟩), .int .i64 1] w fun e w' => Door n0 w hb ov ob cap fuel deep (kN xb) false L e w' := by
  have HF := Lib.hid hf
  have HD := Lib.hid hd
  have cur := Bag.start s
  clear s hf hd
  have HX := Lib.hid hX
  clear hX
  go_enter Tryz.func18, Tryz.ntmps18
  go_wp2_with (first | (go_at_call 55; refine (wrong_none cur.s).mono ?_; rintro e wX ⟨rfl, hb'⟩; replace cur := cur.next hb'; clear hb') | (go_at_call 61; refine (xeprev cur.s ⟨by have := HF.out; omega, by have := HF.out; omega⟩ (by have := HD.out; omega) (HX.out.keeps cur.k)).mono ?_; rintro e wY ⟨tp', rfl, s9, k9⟩; replace cur := cur.go s9 k9; clear s9 k9))
  go_ret2
  exact ⟨_, tp', _, rfl, cur.s, cur.k, by have := HF.out; omega, by have := HF.out; omega⟩

theorem xdkeys {n0 : Nat} {w : World} {hb : Nat} {ov : Value} {ob : Nat} {tp : Option Addr} {cap fuel deep : Int} {xb : Nat} {ext : Bool} {L : List (Ky × Ds)} (s : StX n0 w hb ov ob tp cap fuel deep (kN xb) ext L) (hf : 3 < fuel ∧ fuel ≤ 9223372036854775807) (hd : 0 ≤ deep ∧ deep < 8) {g xc : Nat} {a : Option Addr} {l : List Ex} (hX : XAt w xb g xc a l) (hg : LGood L) (hlen : L.length ≤ 1000000) : Calls Tryz.prog 20 #[.pointer (some ⟨hb, 0, none⟩), .int .i64 1] w fun e w' => ∃ v tp, e = .returned (.tuple #[v, .nilIface]) ∧ KeysAt w' 0 v (nsKeys l L) ∧ StX n0 w' hb ov ob tp cap (fuel - 1) deep (kN xb) ext L ∧ Keeps n0 w w' := by
  have HF := Lib.hid hf
  have HD := Lib.hid hd
  have cur := Bag.start s
  clear s hf hd
  have HX := Lib.hid hX
  have HG := Lib.hid hg
  have HL := Lib.hid hlen
  clear hX hg hlen
  go_enter Tryz.func20, Tryz.ntmps20
  go_wp2_with (first | (go_at_call 55; refine (wrong_none cur.s).mono ?_; rintro e wX ⟨rfl, hb'⟩; replace cur := cur.next hb'; clear hb') | (go_at_call 63; refine (xekeys cur.s ⟨by have := HF.out; omega, by have := HF.out; omega⟩ (by have := HD.out; omega) (HX.out.keeps cur.k) HG.out HL.out).mono ?_; rintro e wY ⟨vk, tp', rfl, hk, s9, k9⟩; replace cur := cur.go s9 k9; clear s9 k9))
  go_ret2
  exact ⟨vk, tp', rfl, hk, cur.s, cur.k⟩

theorem xdhas_some {n0 : Nat} {w : World} {hb : Nat} {ov : Value} {ob : Nat} {tp : Option Addr} {cap fuel deep : Int} {xb : Nat} {ext : Bool} {L : List (Ky × Ds)} (s : StX n0 w hb ov ob tp cap fuel deep (kN xb) ext L) (hf : 3 < fuel ∧ fuel ≤ 9223372036854775807) (hd : 0 ≤ deep ∧ deep < 8) {g xc : Nat} {a : Option Addr} {l : List Ex} (hX : XAt w xb g xc a l) (q : ByteArray) (hg : kgood ⟨q, 0⟩ = true) (hq : q.size + 2 ≤ 1099511627776) {i : Nat} (hI : xIdx l q = some i) : Calls Tryz.prog 47 #[.pointer (some ⟨hb, 0, none⟩), .int .i64 1, .agg #[.string q, .int .i64 0]] w fun e w' => DidE (.tuple #[.bool true, .nilIface]) n0 w hb ov ob cap (fuel - 1) deep (kN xb) ext L e w' := by
  have HF := Lib.hid hf
  have HD := Lib.hid hd
  have cur := Bag.start s
  clear s hf hd
  have HX := Lib.hid hX
  have HG := Lib.hid hg
  clear hX hg
  go_enter Tryz.func47, Tryz.ntmps47
  go_wp2_with (first | ((with_reducible show wpList _ _ _ (⟨_, .box 40 (.tmp 2), _, _, _, _⟩ :: _) _ _); refine wpList_box_blk rfl 40 _ rfl (#[.string q, .int .i64 0]) rfl ?_; intro wk hB hL hs; replace cur := cur.push hL hB (Nat.le_refl _) rfl; clear hB hL hs) | ((with_reducible show wpList _ _ _ (⟨_, .load 40 (.tmp 5), _, _, _, _⟩ :: _) _ _); refine wpList_load_blk rfl 40 _ rfl _ rfl (cur.blk 0 rfl) Tryz.row40 Tryz.size40 ?_) | (go_at_call 55; refine (wrong_key cur.s ⟨q, 0⟩ _ (cur.blk 0 rfl)).mono ?_; rw [HG.out]; rintro e wX ⟨rfl, hb'⟩; replace cur := cur.next hb'; clear hb') | (go_at_call 97; refine (xehas_some cur.s ⟨by have := HF.out; omega, by have := HF.out; omega⟩ (by have := HD.out; omega) (HX.out.keeps cur.k) q hq hI).mono ?_; rintro e wY ⟨tp', rfl, s9, k9⟩; replace cur := cur.go s9 k9; clear s9 k9))
  go_ret2
  exact ⟨tp', rfl, cur.s, cur.k⟩

theorem xdhas_tag {n0 : Nat} {w : World} {hb : Nat} {ov : Value} {ob : Nat} {tp : Option Addr} {cap fuel deep : Int} {xb : Nat} {ext : Bool} {L : List (Ky × Ds)} (s : StX n0 w hb ov ob tp cap fuel deep (kN xb) ext L) (hf : 3 < fuel ∧ fuel ≤ 9223372036854775807) (hd : 0 ≤ deep ∧ deep < 8) {g xc : Nat} {a : Option Addr} {l : List Ex} (hX : XAt w xb g xc a l) (k : Ky) (hg : kgood k = true) (hk : ¬ k.sym = 0) (hgt : (getL L k).isSome = true) : Calls Tryz.prog 47 #[.pointer (some ⟨hb, 0, none⟩), .int .i64 1, .agg (kArr k)] w fun e w' => DidE (.tuple #[.bool true, .nilIface]) n0 w hb ov ob cap (fuel - 1) deep (kN xb) ext L e w' := by
  have HF := Lib.hid hf
  have HD := Lib.hid hd
  have cur := Bag.start s
  clear s hf hd
  have HGT := Lib.hid hgt
  clear hgt
  have HX := Lib.hid hX
  have HG := Lib.hid hg
  clear hX hg
  go_enter Tryz.func47, Tryz.ntmps47
  go_wp2_with (first | ((with_reducible show wpList _ _ _ (⟨_, .box 40 (.tmp 2), _, _, _, _⟩ :: _) _ _); refine wpList_box_blk rfl 40 _ rfl ((kArr k)) rfl ?_; intro wk hB hL hs; replace cur := cur.push hL hB (Nat.le_refl _) rfl; clear hB hL hs) | ((with_reducible show wpList _ _ _ (⟨_, .load 40 (.tmp 5), _, _, _, _⟩ :: _) _ _); refine wpList_load_blk rfl 40 _ rfl _ rfl (cur.blk 0 rfl) Tryz.row40 Tryz.size40 ?_) | (go_at_call 55; refine (wrong_key cur.s k _ (cur.blk 0 rfl)).mono ?_; rw [HG.out]; rintro e wX ⟨rfl, hb'⟩; replace cur := cur.next hb'; clear hb') | (go_at_call 97; refine (xehas_sym cur.s ⟨by have := HF.out; omega, by have := HF.out; omega⟩ (by have := HD.out; omega) (HX.out.keeps cur.k) k hk HGT.out).mono ?_; rintro e wY ⟨tp', rfl, s9, k9⟩; replace cur := cur.go s9 k9; clear s9 k9))
  go_ret2
  exact ⟨tp', rfl, cur.s, cur.k⟩

theorem xddel_some {n0 : Nat} {w : World} {hb : Nat} {ov : Value} {ob : Nat} {tp : Option Addr} {cap fuel deep : Int} {xb : Nat} {ext : Bool} {L : List (Ky × Ds)} (s : StX n0 w hb ov ob tp cap fuel deep (kN xb) ext L) (hf : 3 < fuel ∧ fuel ≤ 9223372036854775807) (hd : 0 ≤ deep ∧ deep < 8) {g xc : Nat} {a : Option Addr} {l : List Ex} (hX : XAt w xb g xc a l) (q : ByteArray) (hg : kgood ⟨q, 0⟩ = true) (hq : q.size + 2 ≤ 1099511627776) {i : Nat} (hI : xIdx l q = some i) : Calls Tryz.prog 17 #[.pointer (some ⟨hb, 0, none⟩), .int .i64 1, .agg #[.string q, .int .i64 0]] w fun e w' => Door n0 w hb ov ob cap fuel deep (kN xb) ext L e w' := by
  have HF := Lib.hid hf
  have HD := Lib.hid hd
  have cur := Bag.start s
  clear s hf hd
  have HX := Lib.hid hX
  have HG := Lib.hid hg
  clear hX hg
  go_enter Tryz.func17, Tryz.ntmps17
  go_wp2_with (first | ((with_reducible show wpList _ _ _ (⟨_, .box 40 (.tmp 2), _, _, _, _⟩ :: _) _ _); refine wpList_box_blk rfl 40 _ rfl (#[.string q, .int .i64 0]) rfl ?_; intro wk hB hL hs; replace cur := cur.push hL hB (Nat.le_refl _) rfl; clear hB hL hs) | ((with_reducible show wpList _ _ _ (⟨_, .load 40 (.tmp 5), _, _, _, _⟩ :: _) _ _); refine wpList_load_blk rfl 40 _ rfl _ rfl (cur.blk 0 rfl) Tryz.row40 Tryz.size40 ?_) | (go_at_call 55; refine (wrong_key cur.s ⟨q, 0⟩ _ (cur.blk 0 rfl)).mono ?_; rw [HG.out]; rintro e wX ⟨rfl, hb'⟩; replace cur := cur.next hb'; clear hb') | (go_at_call 60; refine (xedel_some cur.s ⟨by have := HF.out; omega, by have := HF.out; omega⟩ (by have := HD.out; omega) (HX.out.keeps cur.k) q hq hI).mono ?_; rintro e wY ⟨tp', rfl, s9, k9⟩; replace cur := cur.go s9 k9; clear s9 k9))
  go_ret2
  exact ⟨_, tp', _, rfl, cur.s, cur.k, by have := HF.out; omega, by have := HF.out; omega⟩

theorem xddel_none {n0 : Nat} {w : World} {hb : Nat} {ov : Value} {ob : Nat} {tp : Option Addr} {cap fuel deep : Int} {xb : Nat} {ext : Bool} {L : List (Ky × Ds)} (s : StX n0 w hb ov ob tp cap fuel deep (kN xb) ext L) (hf : 3 < fuel ∧ fuel ≤ 9223372036854775807) (hd : 0 ≤ deep ∧ deep < 8) {g xc : Nat} {a : Option Addr} {l : List Ex} (hX : XAt w xb g xc a l) (q : ByteArray) (hg : kgood ⟨q, 0⟩ = true) (hq : q.size + 2 ≤ 1099511627776) (hI : xIdx l q = none) : Calls Tryz.prog 17 #[.pointer (some ⟨hb, 0, none⟩), .int .i64 1, .agg #[.string q, .int .i64 0]] w fun e w' => Door n0 w hb ov ob cap fuel deep (kN xb) ext L e w' := by
  have HF := Lib.hid hf
  have HD := Lib.hid hd
  have cur := Bag.start s
  clear s hf hd
  have HX := Lib.hid hX
  have HG := Lib.hid hg
  clear hX hg
  go_enter Tryz.func17, Tryz.ntmps17
  go_wp2_with (first | ((with_reducible show wpList _ _ _ (⟨_, .box 40 (.tmp 2), _, _, _, _⟩ :: _) _ _); refine wpList_box_blk rfl 40 _ rfl (#[.string q, .int .i64 0]) rfl ?_; intro wk hB hL hs; replace cur := cur.push hL hB (Nat.le_refl _) rfl; clear hB hL hs) | ((with_reducible show wpList _ _ _ (⟨_, .load 40 (.tmp 5), _, _, _, _⟩ :: _) _ _); refine wpList_load_blk rfl 40 _ rfl _ rfl (cur.blk 0 rfl) Tryz.row40 Tryz.size40 ?_) | (go_at_call 55; refine (wrong_key cur.s ⟨q, 0⟩ _ (cur.blk 0 rfl)).mono ?_; rw [HG.out]; rintro e wX ⟨rfl, hb'⟩; replace cur := cur.next hb'; clear hb') | (go_at_call 60; refine (xedel_none cur.s ⟨by have := HF.out; omega, by have := HF.out; omega⟩ (by have := HD.out; omega) (HX.out.keeps cur.k) q hq hI).mono ?_; rintro e wY ⟨tp', rfl, s9, k9⟩; replace cur := cur.go s9 k9; clear s9 k9))
  go_ret2
  exact ⟨_, tp', _, rfl, cur.s, cur.k, by have := HF.out; omega, by have := HF.out; omega⟩

theorem xddel_symn {n0 : Nat} {w : World} {hb : Nat} {ov : Value} {ob : Nat} {tp : Option Addr} {cap fuel deep : Int} {xb : Nat} {ext : Bool} {L : List (Ky × Ds)} (s : StX n0 w hb ov ob tp cap fuel deep (kN xb) ext L) (hf : 3 < fuel ∧ fuel ≤ 9223372036854775807) (hd : 0 ≤ deep ∧ deep < 8) {g xc : Nat} {a : Option Addr} {l : List Ex} (hX : XAt w xb g xc a l) (k : Ky) (hg : kgood k = true) (hk : ¬ k.sym = 0) (hgt : (getL L k).isSome = false) : Calls Tryz.prog 17 #[.pointer (some ⟨hb, 0, none⟩), .int .i64 1, .agg (kArr k)] w fun e w' => Door n0 w hb ov ob cap fuel deep (kN xb) ext L e w' := by
  have HF := Lib.hid hf
  have HD := Lib.hid hd
  have cur := Bag.start s
  clear s hf hd
  have HGT := Lib.hid hgt
  clear hgt
  have HX := Lib.hid hX
  have HG := Lib.hid hg
  clear hX hg
  go_enter Tryz.func17, Tryz.ntmps17
  go_wp2_with (first | ((with_reducible show wpList _ _ _ (⟨_, .box 40 (.tmp 2), _, _, _, _⟩ :: _) _ _); refine wpList_box_blk rfl 40 _ rfl ((kArr k)) rfl ?_; intro wk hB hL hs; replace cur := cur.push hL hB (Nat.le_refl _) rfl; clear hB hL hs) | ((with_reducible show wpList _ _ _ (⟨_, .load 40 (.tmp 5), _, _, _, _⟩ :: _) _ _); refine wpList_load_blk rfl 40 _ rfl _ rfl (cur.blk 0 rfl) Tryz.row40 Tryz.size40 ?_) | (go_at_call 55; refine (wrong_key cur.s k _ (cur.blk 0 rfl)).mono ?_; rw [HG.out]; rintro e wX ⟨rfl, hb'⟩; replace cur := cur.next hb'; clear hb') | (go_at_call 60; refine (xedel_symn cur.s ⟨by have := HF.out; omega, by have := HF.out; omega⟩ (by have := HD.out; omega) (HX.out.keeps cur.k) k hk HGT.out).mono ?_; rintro e wY ⟨tp', rfl, s9, k9⟩; replace cur := cur.go s9 k9; clear s9 k9))
  go_ret2
  exact ⟨_, tp', _, rfl, cur.s, cur.k, by have := HF.out; omega, by have := HF.out; omega⟩

theorem xddel_syms {n0 : Nat} {w : World} {hb : Nat} {ov : Value} {ob : Nat} {tp : Option Addr} {cap fuel deep : Int} {xb : Nat} {ext : Bool} {L : List (Ky × Ds)} (s : StX n0 w hb ov ob tp cap fuel deep (kN xb) ext L) (hf : 3 < fuel ∧ fuel ≤ 9223372036854775807) (hd : 0 ≤ deep ∧ deep < 8) {g xc : Nat} {a : Option Addr} {l : List Ex} (hX : XAt w xb g xc a l) (k : Ky) (hg : kgood k = true) (hk : ¬ k.sym = 0) (hgt : (getL L k).isSome = true ∧ ((getL L k).getD Dc.d0).c = 1) : Calls Tryz.prog 17 #[.pointer (some ⟨hb, 0, none⟩), .int .i64 1, .agg (kArr k)] w fun e w' => Door n0 w hb ov ob cap fuel deep (kN xb) ext L e w' := by
  have HF := Lib.hid hf
  have HD := Lib.hid hd
  have cur := Bag.start s
  clear s hf hd
  have HGT := Lib.hid hgt
  clear hgt
  have HX := Lib.hid hX
  have HG := Lib.hid hg
  clear hX hg
  go_enter Tryz.func17, Tryz.ntmps17
  go_wp2_with (first | ((with_reducible show wpList _ _ _ (⟨_, .box 40 (.tmp 2), _, _, _, _⟩ :: _) _ _); refine wpList_box_blk rfl 40 _ rfl ((kArr k)) rfl ?_; intro wk hB hL hs; replace cur := cur.push hL hB (Nat.le_refl _) rfl; clear hB hL hs) | ((with_reducible show wpList _ _ _ (⟨_, .load 40 (.tmp 5), _, _, _, _⟩ :: _) _ _); refine wpList_load_blk rfl 40 _ rfl _ rfl (cur.blk 0 rfl) Tryz.row40 Tryz.size40 ?_) | (go_at_call 55; refine (wrong_key cur.s k _ (cur.blk 0 rfl)).mono ?_; rw [HG.out]; rintro e wX ⟨rfl, hb'⟩; replace cur := cur.next hb'; clear hb') | (go_at_call 60; refine (xedel_syms cur.s ⟨by have := HF.out; omega, by have := HF.out; omega⟩ (by have := HD.out; omega) (HX.out.keeps cur.k) k hk HGT.out).mono ?_; rintro e wY ⟨tp', rfl, s9, k9⟩; replace cur := cur.go s9 k9; clear s9 k9))
  go_ret2
  exact ⟨_, tp', _, rfl, cur.s, cur.k, by have := HF.out; omega, by have := HF.out; omega⟩


end Go.Proofs.YtoalboilghgalaaGreatDoor

/- A namespace: the doors of DefineOwnProperty and Get. -/
namespace Go.Proofs.YtoalboilghgalaaGreatDoor
open Go.RowKit
open Go.Proofs.Dc (V Ds Ky)
attribute [local go_sem] run_store_float

theorem xddef_none {n0 : Nat} {w : World} {hb : Nat} {ov : Value} {ob : Nat} {tp : Option Addr} {cap fuel deep : Int} {xb : Nat} {ext : Bool} {L : List (Ky × Ds)} (s : StX n0 w hb ov ob tp cap fuel deep (kN xb) ext L) (hf : 3 < fuel ∧ fuel ≤ 9223372036854775807) (hd : 0 ≤ deep ∧ deep < 8) {g xc : Nat} {a : Option Addr} {l : List Ex} (hX : XAt w xb g xc a l) (q : ByteArray) (hq : q.size + 2 ≤ 1099511627776) (d : Ds) (hnd : Nums d) (hw : wrongD ⟨q, 0⟩ d = 0) (hI : xIdx l q = none) : Calls Tryz.prog 14 #[.pointer (some ⟨hb, 0, none⟩), .int .i64 1, .agg #[.string q, .int .i64 0], .agg (dArr d)] w fun e w' => Door n0 w hb ov ob cap fuel deep (kN xb) ext L e w' := by
  have HF := Lib.hid hf
  have HD := Lib.hid hd
  have cur := Bag.start s
  clear s hf hd
  have HX := Lib.hid hX
  have HND := Lib.hid hnd
  have HW := Lib.hid hw
  clear hX hnd hw
  go_enter Tryz.func14, Tryz.ntmps14
  go_wp2_with (first | ((with_reducible show wpList _ _ _ (⟨_, .box 40 (.tmp 2), _, _, _, _⟩ :: _) _ _); refine wpList_box_blk rfl 40 _ rfl (#[.string q, .int .i64 0]) rfl ?_; intro wk hB hL hs; replace cur := cur.push hL hB (Nat.le_refl _) rfl; clear hB hL hs) | ((with_reducible show wpList _ _ _ (⟨_, .box 43 (.tmp 3), _, _, _, _⟩ :: _) _ _); refine wpList_box_blk rfl 43 _ rfl (dArr d) rfl ?_; intro wd hB hL hs; replace cur := cur.push hL hB (Nat.le_refl _) rfl; clear hB hL hs) | ((with_reducible show wpList _ _ _ (⟨_, .load 40 (.tmp 6), _, _, _, _⟩ :: _) _ _); refine wpList_load_blk rfl 40 _ rfl _ rfl (cur.blk 1 rfl) Tryz.row40 Tryz.size40 ?_) | ((with_reducible show wpList _ _ _ (⟨_, .load 43 (.tmp 7), _, _, _, _⟩ :: _) _ _); refine wpList_load_blk rfl 43 _ rfl _ rfl (cur.blk 0 rfl) Tryz.row43 Tryz.size43 ?_) | (go_at_call 55; refine (wrong_any cur.s (kN_ok xb) ⟨q, 0⟩ d HND.out _ _ (cur.blk 1 rfl) (cur.blk 0 rfl)).mono ?_; rw [HW.out]; rintro e wX ⟨rfl, hb'⟩; replace cur := cur.next hb'; clear hb') | (go_at_call 56; refine (xedef_none cur.s ⟨by have := HF.out; omega, by have := HF.out; omega⟩ (by have := HD.out; omega) (HX.out.keeps cur.k) q hq d hI).mono ?_; rintro e wY ⟨tp', rfl, s9, k9⟩; replace cur := cur.go s9 k9; clear s9 k9))
  go_ret2
  exact ⟨_, tp', _, rfl, cur.s, cur.k, by have := HF.out; omega, by have := HF.out; omega⟩

theorem xddef_some {n0 : Nat} {w : World} {hb : Nat} {ov : Value} {ob : Nat} {tp : Option Addr} {cap fuel deep : Int} {xb : Nat} {ext : Bool} {L : List (Ky × Ds)} (s : StX n0 w hb ov ob tp cap fuel deep (kN xb) ext L) (hf : 3 < fuel ∧ fuel ≤ 9223372036854775807) (hd : 0 ≤ deep ∧ deep < 8) {g xc : Nat} {a : Option Addr} {l : List Ex} (hX : XAt w xb g xc a l) (q : ByteArray) (hq : q.size + 2 ≤ 1099511627776) (d : Ds) (hnd : Nums d) (hw : wrongD ⟨q, 0⟩ d = 0) {i : Nat} {z : Ex} (hI : xIdx l q = some i) (hx : l[i]? = some z) (h0 : ¬ z.val.kind = 0) (hzn : z.val.num < 2 ^ 64) : Calls Tryz.prog 14 #[.pointer (some ⟨hb, 0, none⟩), .int .i64 1, .agg #[.string q, .int .i64 0], .agg (dArr d)] w fun e w' => Door n0 w hb ov ob cap fuel deep (kN xb) ext L e w' := by
  have HF := Lib.hid hf
  have HD := Lib.hid hd
  have cur := Bag.start s
  clear s hf hd
  have HX := Lib.hid hX
  have HND := Lib.hid hnd
  have HW := Lib.hid hw
  clear hX hnd hw
  go_enter Tryz.func14, Tryz.ntmps14
  go_wp2_with (first | ((with_reducible show wpList _ _ _ (⟨_, .box 40 (.tmp 2), _, _, _, _⟩ :: _) _ _); refine wpList_box_blk rfl 40 _ rfl (#[.string q, .int .i64 0]) rfl ?_; intro wk hB hL hs; replace cur := cur.push hL hB (Nat.le_refl _) rfl; clear hB hL hs) | ((with_reducible show wpList _ _ _ (⟨_, .box 43 (.tmp 3), _, _, _, _⟩ :: _) _ _); refine wpList_box_blk rfl 43 _ rfl (dArr d) rfl ?_; intro wd hB hL hs; replace cur := cur.push hL hB (Nat.le_refl _) rfl; clear hB hL hs) | ((with_reducible show wpList _ _ _ (⟨_, .load 40 (.tmp 6), _, _, _, _⟩ :: _) _ _); refine wpList_load_blk rfl 40 _ rfl _ rfl (cur.blk 1 rfl) Tryz.row40 Tryz.size40 ?_) | ((with_reducible show wpList _ _ _ (⟨_, .load 43 (.tmp 7), _, _, _, _⟩ :: _) _ _); refine wpList_load_blk rfl 43 _ rfl _ rfl (cur.blk 0 rfl) Tryz.row43 Tryz.size43 ?_) | (go_at_call 55; refine (wrong_any cur.s (kN_ok xb) ⟨q, 0⟩ d HND.out _ _ (cur.blk 1 rfl) (cur.blk 0 rfl)).mono ?_; rw [HW.out]; rintro e wX ⟨rfl, hb'⟩; replace cur := cur.next hb'; clear hb') | (go_at_call 56; refine (xedef_some cur.s ⟨by have := HF.out; omega, by have := HF.out; omega⟩ (by have := HD.out; omega) (HX.out.keeps cur.k) q hq d hI hx h0 HND.out hzn).mono ?_; rintro e wY ⟨x, tp', rfl, s9, k9⟩; replace cur := cur.go s9 k9; clear s9 k9))
  go_ret2
  exact ⟨_, tp', _, rfl, cur.s, cur.k, by have := HF.out; omega, by have := HF.out; omega⟩

theorem xddef_thr {n0 : Nat} {w : World} {hb : Nat} {ov : Value} {ob : Nat} {tp : Option Addr} {cap fuel deep : Int} {xb : Nat} {ext : Bool} {L : List (Ky × Ds)} (s : StX n0 w hb ov ob tp cap fuel deep (kN xb) ext L) (hf : 3 < fuel ∧ fuel ≤ 9223372036854775807) (hd : 0 ≤ deep ∧ deep < 8) {g xc : Nat} {a : Option Addr} {l : List Ex} (hX : XAt w xb g xc a l) (q : ByteArray) (hq : q.size + 2 ≤ 1099511627776) (d : Ds) (hnd : Nums d) (hw : wrongD ⟨q, 0⟩ d = 0) {i : Nat} {z : Ex} (hI : xIdx l q = some i) (hx : l[i]? = some z) (h0 : z.val.kind = 0) : Calls Tryz.prog 14 #[.pointer (some ⟨hb, 0, none⟩), .int .i64 1, .agg #[.string q, .int .i64 0], .agg (dArr d)] w fun e w' => Door n0 w hb ov ob cap fuel deep (kN xb) ext L e w' := by
  have HF := Lib.hid hf
  have HD := Lib.hid hd
  have cur := Bag.start s
  clear s hf hd
  have HX := Lib.hid hX
  have HND := Lib.hid hnd
  have HW := Lib.hid hw
  clear hX hnd hw
  go_enter Tryz.func14, Tryz.ntmps14
  go_wp2_with (first | ((with_reducible show wpList _ _ _ (⟨_, .box 40 (.tmp 2), _, _, _, _⟩ :: _) _ _); refine wpList_box_blk rfl 40 _ rfl (#[.string q, .int .i64 0]) rfl ?_; intro wk hB hL hs; replace cur := cur.push hL hB (Nat.le_refl _) rfl; clear hB hL hs) | ((with_reducible show wpList _ _ _ (⟨_, .box 43 (.tmp 3), _, _, _, _⟩ :: _) _ _); refine wpList_box_blk rfl 43 _ rfl (dArr d) rfl ?_; intro wd hB hL hs; replace cur := cur.push hL hB (Nat.le_refl _) rfl; clear hB hL hs) | ((with_reducible show wpList _ _ _ (⟨_, .load 40 (.tmp 6), _, _, _, _⟩ :: _) _ _); refine wpList_load_blk rfl 40 _ rfl _ rfl (cur.blk 1 rfl) Tryz.row40 Tryz.size40 ?_) | ((with_reducible show wpList _ _ _ (⟨_, .load 43 (.tmp 7), _, _, _, _⟩ :: _) _ _); refine wpList_load_blk rfl 43 _ rfl _ rfl (cur.blk 0 rfl) Tryz.row43 Tryz.size43 ?_) | (go_at_call 55; refine (wrong_any cur.s (kN_ok xb) ⟨q, 0⟩ d HND.out _ _ (cur.blk 1 rfl) (cur.blk 0 rfl)).mono ?_; rw [HW.out]; rintro e wX ⟨rfl, hb'⟩; replace cur := cur.next hb'; clear hb') | (go_at_call 56; refine (xedef_thr cur.s ⟨by have := HF.out; omega, by have := HF.out; omega⟩ (by have := HD.out; omega) (HX.out.keeps cur.k) q hq d hI hx h0).mono ?_; rintro e wY ⟨bt, tp', rfl, hnb, hbb, s9, k9⟩; unfold errT; replace cur := cur.go s9 k9; clear s9 k9))
  go_ret2
  exact ⟨_, tp', _, rfl, cur.s, cur.k, by have := HF.out; omega, by have := HF.out; omega⟩

theorem xddef_sym {n0 : Nat} {w : World} {hb : Nat} {ov : Value} {ob : Nat} {tp : Option Addr} {cap fuel deep : Int} {xb : Nat} {ext : Bool} {L : List (Ky × Ds)} (s : StX n0 w hb ov ob tp cap fuel deep (kN xb) ext L) (hf : 3 < fuel ∧ fuel ≤ 9223372036854775807) (hd : 0 ≤ deep ∧ deep < 8) {g xc : Nat} {a : Option Addr} {l : List Ex} (hX : XAt w xb g xc a l) (k : Ky) (d : Ds) (hnd : Nums d) (hw : wrongD k d = 0) (hk : ¬ k.sym = 0) (hlen : L.length < 1000000) (hn : LNums L) (hl : LOk L) : Calls Tryz.prog 14 #[.pointer (some ⟨hb, 0, none⟩), .int .i64 1, .agg (kArr k), .agg (dArr d)] w fun e w' => Door n0 w hb ov ob cap fuel deep (kN xb) ext (defL ext L k d) e w' := by
  have HF := Lib.hid hf
  have HD := Lib.hid hd
  have cur := Bag.start s
  clear s hf hd
  have HKG := Lib.hid (wrong_zero hw)
  have HLL := Lib.hid hlen
  have HX := Lib.hid hX
  clear hlen
  have HND := Lib.hid hnd
  have HW := Lib.hid hw
  clear hX hnd hw
  go_enter Tryz.func14, Tryz.ntmps14
  go_wp2_with (first | ((with_reducible show wpList _ _ _ (⟨_, .box 40 (.tmp 2), _, _, _, _⟩ :: _) _ _); refine wpList_box_blk rfl 40 _ rfl ((kArr k)) rfl ?_; intro wk hB hL hs; replace cur := cur.push hL hB (Nat.le_refl _) rfl; clear hB hL hs) | ((with_reducible show wpList _ _ _ (⟨_, .box 43 (.tmp 3), _, _, _, _⟩ :: _) _ _); refine wpList_box_blk rfl 43 _ rfl (dArr d) rfl ?_; intro wd hB hL hs; replace cur := cur.push hL hB (Nat.le_refl _) rfl; clear hB hL hs) | ((with_reducible show wpList _ _ _ (⟨_, .load 40 (.tmp 6), _, _, _, _⟩ :: _) _ _); refine wpList_load_blk rfl 40 _ rfl _ rfl (cur.blk 1 rfl) Tryz.row40 Tryz.size40 ?_) | ((with_reducible show wpList _ _ _ (⟨_, .load 43 (.tmp 7), _, _, _, _⟩ :: _) _ _); refine wpList_load_blk rfl 43 _ rfl _ rfl (cur.blk 0 rfl) Tryz.row43 Tryz.size43 ?_) | (go_at_call 55; refine (wrong_any cur.s (kN_ok xb) k d HND.out _ _ (cur.blk 1 rfl) (cur.blk 0 rfl)).mono ?_; rw [HW.out]; rintro e wX ⟨rfl, hb'⟩; replace cur := cur.next hb'; clear hb') | (go_at_call 56; refine (xedef_sym cur.s ⟨by have := HF.out; omega, by have := HF.out; omega⟩ (by have := HD.out; omega) (HX.out.keeps cur.k) k hk d HKG.out.1 HLL.out HND.out HKG.out.2 hn hl).mono ?_; rintro e wY ⟨tp', rfl, s9, k9⟩; replace cur := cur.go s9 k9; clear s9 k9))
  go_ret2
  exact ⟨_, tp', _, rfl, cur.s, cur.k, by have := HF.out; omega, by have := HF.out; omega⟩

theorem xddef_bad {n0 : Nat} {w : World} {hb : Nat} {ov : Value} {ob : Nat} {tp : Option Addr} {cap fuel deep : Int} {xb : Nat} {ext : Bool} {L : List (Ky × Ds)} (s : StX n0 w hb ov ob tp cap fuel deep (kN xb) ext L) (hf : 3 < fuel ∧ fuel ≤ 9223372036854775807) (hd : 0 ≤ deep ∧ deep < 8) (k : Ky) (d : Ds) (hnd : Nums d) (hw : ¬ wrongD k d = 0) : Calls Tryz.prog 14 #[.pointer (some ⟨hb, 0, none⟩), .int .i64 1, .agg (kArr k), .agg (dArr d)] w fun e w' => Door n0 w hb ov ob cap fuel deep (kN xb) ext L e w' := by
  have HF := Lib.hid hf
  have HD := Lib.hid hd
  have cur := Bag.start s
  clear s hf hd
  obtain ⟨n, hn⟩ : ∃ n, wrongD k d = n := ⟨_, rfl⟩
  rw [hn] at hw
  have hne1 : (n == 0) = false := by simpa using hw
  have hne2 : (n != 0) = true := by simpa using hw
  have HND := Lib.hid hnd
  have HW := Lib.hid hn
  clear hnd hn hw
  go_enter Tryz.func14, Tryz.ntmps14
  go_wp2_with (first | ((with_reducible show wpList _ _ _ (⟨_, .box 40 (.tmp 2), _, _, _, _⟩ :: _) _ _); refine wpList_box_blk rfl 40 _ rfl (kArr k) rfl ?_; intro wk hB hL hs; replace cur := cur.push hL hB (Nat.le_refl _) rfl; clear hB hL hs) | ((with_reducible show wpList _ _ _ (⟨_, .box 43 (.tmp 3), _, _, _, _⟩ :: _) _ _); refine wpList_box_blk rfl 43 _ rfl (dArr d) rfl ?_; intro wd hB hL hs; replace cur := cur.push hL hB (Nat.le_refl _) rfl; clear hB hL hs) | ((with_reducible show wpList _ _ _ (⟨_, .load 40 (.tmp 6), _, _, _, _⟩ :: _) _ _); refine wpList_load_blk rfl 40 _ rfl _ rfl (cur.blk 1 rfl) Tryz.row40 Tryz.size40 ?_) | ((with_reducible show wpList _ _ _ (⟨_, .load 43 (.tmp 7), _, _, _, _⟩ :: _) _ _); refine wpList_load_blk rfl 43 _ rfl _ rfl (cur.blk 0 rfl) Tryz.row43 Tryz.size43 ?_) | (go_at_call 55; refine (wrong_any cur.s (kN_ok xb) k d HND.out _ _ (cur.blk 1 rfl) (cur.blk 0 rfl)).mono ?_; rw [HW.out]; rintro e wX ⟨rfl, hb'⟩; replace cur := cur.next hb'; clear hb'))
  go_ret2
  exact ⟨_, tp, _, rfl, cur.s, cur.k, by have := HF.out; omega, by have := HF.out; omega⟩

theorem xdget_some {n0 : Nat} {w : World} {hb : Nat} {ov : Value} {ob : Nat} {tp : Option Addr} {cap fuel deep : Int} {xb : Nat} {ext : Bool} {L : List (Ky × Ds)} (s : StX n0 w hb ov ob tp cap fuel deep (kN xb) ext L) (hf : 3 < fuel ∧ fuel ≤ 9223372036854775807) (hd : 0 ≤ deep ∧ deep < 8) {g xc : Nat} {a : Option Addr} {l : List Ex} (hX : XAt w xb g xc a l) (q : ByteArray) (hg : kgood ⟨q, 0⟩ = true) (hq : q.size + 2 ≤ 1099511627776) (rv : V) (hrn : rv.num < 2 ^ 64) (hw : wrongV [rv] = 0) {i : Nat} {z : Ex} (hI : xIdx l q = some i) (hx : l[i]? = some z) (h0 : ¬ z.val.kind = 0) : Calls Tryz.prog 21 #[.pointer (some ⟨hb, 0, none⟩), .int .i64 1, .agg #[.string q, .int .i64 0], .agg (vArr rv)] w fun e w' => DidE (.tuple #[.agg (vArr z.val), .nilIface]) n0 w hb ov ob cap (fuel - 1) deep (kN xb) ext L e w' := by
  have HF := Lib.hid hf
  have HD := Lib.hid hd
  have cur := Bag.start s
  clear s hf hd
  have HX := Lib.hid hX
  have HG := Lib.hid hg
  have HNV := Lib.hid hrn
  have HW := Lib.hid hw
  clear hX hg hrn hw
  go_enter Tryz.func21, Tryz.ntmps21
  go_wp2_with (first | ((with_reducible show wpList _ _ _ (⟨_, .box 40 (.tmp 2), _, _, _, _⟩ :: _) _ _); refine wpList_box_blk rfl 40 _ rfl (#[.string q, .int .i64 0]) rfl ?_; intro wk hB hL hs; replace cur := cur.push hL hB (Nat.le_refl _) rfl; clear hB hL hs) | ((with_reducible show wpList _ _ _ (⟨_, .box 36 (.tmp 3), _, _, _, _⟩ :: _) _ _); refine wpList_box_blk rfl 36 _ rfl (vArr rv) rfl ?_; intro wv hB hL hs; replace cur := cur.push hL hB (Nat.le_refl _) rfl; clear hB hL hs) | ((with_reducible show wpList _ _ _ (⟨some 8, .alloc 36, _, _, _, _⟩ :: _) _ _); refine wpList_alloc_blk rfl 36 rfl (vArr Dc.v0) zero36 ?_; intro wr hB hL hs; have hler := cur.k.size; replace cur := cur.push hL hB (Nat.le_refl _) rfl; clear hB hL hs) | ((with_reducible show wpList _ _ _ (⟨_, .buildSlice 116 _ _, _, _, _, _⟩ :: _) _ _); refine wpList_bs_g rfl 116 36 _ _ rfl (vArr rv) (fun w => bs116_1 rv w) ?_; intro wsl hB hG; replace cur := cur.push hG.below hB (Nat.le_refl _) rfl; clear hB hG) | ((with_reducible show wpList _ _ _ (⟨_, .load 40 (.tmp 6), _, _, _, _⟩ :: _) _ _); refine wpList_load_blk rfl 40 _ rfl _ rfl (cur.blk 3 rfl) Tryz.row40 Tryz.size40 ?_) | ((with_reducible show wpList _ _ _ (⟨_, .load 36 (.tmp 7), _, _, _, _⟩ :: _) _ _); refine wpList_load_blk rfl 36 _ rfl _ rfl (cur.blk 1 rfl) Tryz.row36 Tryz.size36 ?_) | ((with_reducible show wpList _ _ _ (⟨_, .load 36 (.tmp 7), _, _, _, _⟩ :: _) _ _); refine wpList_load_blk rfl 36 _ rfl _ rfl (cur.blk 2 rfl) Tryz.row36 Tryz.size36 ?_) | (go_at_call 55; refine (wrongv_key cur.s [rv] _ 1 1 rfl (by decide) (vals1 (cur.blk 0 rfl)) (by intro u hu; rcases List.mem_cons.1 hu with rfl | hu; exact HNV.out; cases hu) ⟨q, 0⟩ _ (cur.blk 3 rfl) HG.out).mono ?_; rw [HW.out]; rintro e wX ⟨rfl, hb'⟩; replace cur := cur.next hb'; clear hb') | (go_at_call 64; refine (xeget_some cur.s ⟨by have := HF.out; omega, by have := HF.out; omega⟩ (by have := HD.out; omega) (HX.out.keeps cur.k) q hq rv hI hx h0).mono ?_; rintro e wY ⟨tp', rfl, s9, k9⟩; replace cur := cur.go s9 k9; clear s9 k9) | ((with_reducible show wpList _ _ _ (⟨_, .store 36 (.tmp 8) _, _, _, _, _⟩ :: _) _ _); refine wpList_store_blk rfl 36 _ _ rfl _ (vArr z.val) _ 36 rfl rfl (cur.blk 1 rfl) Tryz.size36 rfl (vArr_one _) ?_; intro wg hB hO; replace cur := cur.set 1 rfl hO hB hler; clear hB hO))
  exact bodyPost_ret (results_cell_tmp Tryz.results21 rfl (cur.blk 1 rfl) Tryz.row36 Tryz.size36) rfl ⟨tp', rfl, cur.s, cur.k⟩

theorem xdget_thr {n0 : Nat} {w : World} {hb : Nat} {ov : Value} {ob : Nat} {tp : Option Addr} {cap fuel deep : Int} {xb : Nat} {ext : Bool} {L : List (Ky × Ds)} (s : StX n0 w hb ov ob tp cap fuel deep (kN xb) ext L) (hf : 3 < fuel ∧ fuel ≤ 9223372036854775807) (hd : 0 ≤ deep ∧ deep < 8) {g xc : Nat} {a : Option Addr} {l : List Ex} (hX : XAt w xb g xc a l) (q : ByteArray) (hg : kgood ⟨q, 0⟩ = true) (hq : q.size + 2 ≤ 1099511627776) (rv : V) (hrn : rv.num < 2 ^ 64) (hw : wrongV [rv] = 0) {i : Nat} {z : Ex} (hI : xIdx l q = some i) (hx : l[i]? = some z) (h0 : z.val.kind = 0) : Calls Tryz.prog 21 #[.pointer (some ⟨hb, 0, none⟩), .int .i64 1, .agg #[.string q, .int .i64 0], .agg (vArr rv)] w fun e w' => DidT n0 w hb ov ob cap (fuel - 1) deep (kN xb) ext L e w' := by
  have HF := Lib.hid hf
  have HD := Lib.hid hd
  have cur := Bag.start s
  clear s hf hd
  have HX := Lib.hid hX
  have HG := Lib.hid hg
  have HNV := Lib.hid hrn
  have HW := Lib.hid hw
  clear hX hg hrn hw
  go_enter Tryz.func21, Tryz.ntmps21
  go_wp2_with (first | ((with_reducible show wpList _ _ _ (⟨_, .box 40 (.tmp 2), _, _, _, _⟩ :: _) _ _); refine wpList_box_blk rfl 40 _ rfl (#[.string q, .int .i64 0]) rfl ?_; intro wk hB hL hs; replace cur := cur.push hL hB (Nat.le_refl _) rfl; clear hB hL hs) | ((with_reducible show wpList _ _ _ (⟨_, .box 36 (.tmp 3), _, _, _, _⟩ :: _) _ _); refine wpList_box_blk rfl 36 _ rfl (vArr rv) rfl ?_; intro wv hB hL hs; replace cur := cur.push hL hB (Nat.le_refl _) rfl; clear hB hL hs) | ((with_reducible show wpList _ _ _ (⟨some 8, .alloc 36, _, _, _, _⟩ :: _) _ _); refine wpList_alloc_blk rfl 36 rfl (vArr Dc.v0) zero36 ?_; intro wr hB hL hs; have hler := cur.k.size; replace cur := cur.push hL hB (Nat.le_refl _) rfl; clear hB hL hs) | ((with_reducible show wpList _ _ _ (⟨_, .buildSlice 116 _ _, _, _, _, _⟩ :: _) _ _); refine wpList_bs_g rfl 116 36 _ _ rfl (vArr rv) (fun w => bs116_1 rv w) ?_; intro wsl hB hG; replace cur := cur.push hG.below hB (Nat.le_refl _) rfl; clear hB hG) | ((with_reducible show wpList _ _ _ (⟨_, .load 40 (.tmp 6), _, _, _, _⟩ :: _) _ _); refine wpList_load_blk rfl 40 _ rfl _ rfl (cur.blk 3 rfl) Tryz.row40 Tryz.size40 ?_) | ((with_reducible show wpList _ _ _ (⟨_, .load 36 (.tmp 7), _, _, _, _⟩ :: _) _ _); refine wpList_load_blk rfl 36 _ rfl _ rfl (cur.blk 1 rfl) Tryz.row36 Tryz.size36 ?_) | ((with_reducible show wpList _ _ _ (⟨_, .load 36 (.tmp 7), _, _, _, _⟩ :: _) _ _); refine wpList_load_blk rfl 36 _ rfl _ rfl (cur.blk 2 rfl) Tryz.row36 Tryz.size36 ?_) | (go_at_call 55; refine (wrongv_key cur.s [rv] _ 1 1 rfl (by decide) (vals1 (cur.blk 0 rfl)) (by intro u hu; rcases List.mem_cons.1 hu with rfl | hu; exact HNV.out; cases hu) ⟨q, 0⟩ _ (cur.blk 3 rfl) HG.out).mono ?_; rw [HW.out]; rintro e wX ⟨rfl, hb'⟩; replace cur := cur.next hb'; clear hb') | (go_at_call 64; refine (xeget_thr cur.s ⟨by have := HF.out; omega, by have := HF.out; omega⟩ (by have := HD.out; omega) (HX.out.keeps cur.k) q hq rv hI hx h0).mono ?_; rintro e wY ⟨bt, tp', rfl, hnb, hbb, s9, k9⟩; unfold errT; replace cur := cur.go s9 k9; clear s9 k9) | ((with_reducible show wpList _ _ _ (⟨_, .store 36 (.tmp 8) _, _, _, _, _⟩ :: _) _ _); refine wpList_store_blk rfl 36 _ _ rfl _ (vArr Dc.v0) _ 36 rfl rfl (cur.blk 1 rfl) Tryz.size36 rfl (vArr_one _) ?_; intro wg hB hO; have hbb2 : Blk wg bt thrArr 206 := hbb.only hO (by simpa using hbb.ne (cur.blk 1 rfl) (by decide)); replace cur := cur.set 1 rfl hO hB hler; clear hB hO))
  exact bodyPost_ret (results_cell_tmp Tryz.results21 rfl (cur.blk 1 rfl) Tryz.row36 Tryz.size36) rfl ⟨bt, tp', rfl, hnb, hbb2, cur.s, cur.k⟩


end Go.Proofs.YtoalboilghgalaaGreatDoor
