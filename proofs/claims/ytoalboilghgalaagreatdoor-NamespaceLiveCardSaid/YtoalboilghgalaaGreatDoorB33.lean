/- Lemmas for this claim, in parts: Enter, Enter2, Doors. -/
import Derived.Test.YtoalboilghgalaaGreatDoorB26
import Derived.Test.YtoalboilghgalaaGreatDoorB01
import Derived.Test.YtoalboilghgalaaGreatDoorB19
set_option maxRecDepth 100000
set_option maxHeartbeats 4000000
set_option linter.unusedVariables false
set_option linter.unusedSimpArgs false
/- Enter.., of an ordinary object. -/
namespace Go.Proofs.YtoalboilghgalaaGreatDoor
open Go.RowKit
open Go.Proofs.Dc (V Ds Ky)
attribute [local go_sem] run_store_float

/-- a value, and the heap as it is said to be -/
def Did (v : Value) (n0 : Nat) (w : World) (hb : Nat) (ov : Value) (ob : Nat) (cap fuel : Int) (kd : Kd) (ext : Bool) (L : List (Ky × Ds)) (e : Ending) (w' : World) : Prop :=
  ∃ tp, e = .returned v ∧ StX n0 w' hb ov ob tp cap fuel 0 kd ext L ∧ Keeps n0 w w'

theorem eprev_out {n0 : Nat} {w : World} {hb : Nat} {ov : Value} {ob : Nat} {tp : Option Addr} {cap : Int} {ext : Bool} {L : List (Ky × Ds)} (s : StX n0 w hb ov ob tp cap 0 0 kO ext L) : Calls Tryz.prog 61 #[.pointer (some ⟨hb, 0, none⟩), .int .i64 1] w fun e w' => Did (.tuple #[.bool false, errV 1]) n0 w hb ov ob cap 0 kO ext L e w' := by
  have cur := Bag.start s
  clear s
  go_enter Tryz.func61, Tryz.ntmps61
  go_wp2_with (first | ((with_reducible show wpList _ _ _ (⟨_, .box 25 _, _, _, _, _⟩ :: _) _ _); refine wpList_box1 rfl 25 _ rfl (.pointer (some ⟨hb, 0, none⟩)) rfl rfl ?_; intro wa hB hL hs; replace cur := cur.push hL hB (Nat.le_refl _) rfl; clear hB hL hs) | ((with_reducible show wpList _ _ _ (⟨_, .box 3 _, _, _, _, _⟩ :: _) _ _); refine wpList_box1 rfl 3 _ rfl (.int .i64 1) rfl rfl ?_; intro wb hB hL hs; replace cur := cur.push hL hB (Nat.le_refl _) rfl; clear hB hL hs) | ((with_reducible show wpList _ _ _ (⟨_, .load 25 (.tmp 2), _, _, _, _⟩ :: _) _ _); refine wpList_load1 (by rfl) 25 _ rfl _ 0 rfl (.pointer (some ⟨hb, 0, none⟩)) (Tryz.isAgg25 _) ((cur.blk 1 rfl).cell 0) ?_) | (go_at_call 106; refine (wbool_out cur.s _).mono ?_; rintro e wX ⟨rfl, rfl⟩))
  go_ret2
  exact ⟨tp, rfl, cur.s, cur.k⟩

theorem eprev_in {n0 : Nat} {w : World} {hb : Nat} {ov : Value} {ob : Nat} {tp : Option Addr} {cap fuel : Int} {ext : Bool} {L : List (Ky × Ds)} (s : StX n0 w hb ov ob tp cap fuel 0 kO ext L) (hf : 0 < fuel ∧ fuel ≤ 9223372036854775807) : Calls Tryz.prog 61 #[.pointer (some ⟨hb, 0, none⟩), .int .i64 1] w fun e w' => Did (.tuple #[.bool true, .nilIface]) n0 w hb ov ob cap (fuel - 1) kO false L e w' := by
  have cur := Bag.start s
  clear s
  go_enter Tryz.func61, Tryz.ntmps61
  go_wp2_with (first | ((with_reducible show wpList _ _ _ (⟨_, .box 25 _, _, _, _, _⟩ :: _) _ _); refine wpList_box1 rfl 25 _ rfl (.pointer (some ⟨hb, 0, none⟩)) rfl rfl ?_; intro wa hB hL hs; replace cur := cur.push hL hB (Nat.le_refl _) rfl; clear hB hL hs) | ((with_reducible show wpList _ _ _ (⟨_, .box 3 _, _, _, _, _⟩ :: _) _ _); refine wpList_box1 rfl 3 _ rfl (.int .i64 1) rfl rfl ?_; intro wb hB hL hs; replace cur := cur.push hL hB (Nat.le_refl _) rfl; clear hB hL hs) | ((with_reducible show wpList _ _ _ (⟨_, .load 25 (.tmp 2), _, _, _, _⟩ :: _) _ _); refine wpList_load1 (by rfl) 25 _ rfl _ 0 rfl (.pointer (some ⟨hb, 0, none⟩)) (Tryz.isAgg25 _) ((cur.blk 1 rfl).cell 0) ?_) | (go_at_call 106; refine (wbool_in cur.s hf 111 _ (enters_of Tryz.func111 (by kernel_rfl) rfl) (fun x _ => x = true) (fun _ _ _ h _ => h) (fun W1 s1 k1 => cprev_any (cur.go s1 k1).again)).mono ?_; rintro e wX ⟨x, tp', rfl, s9, k9, rfl⟩; replace cur := cur.go s9 k9))
  go_ret2
  exact ⟨tp', rfl, cur.s, cur.k⟩

theorem eext_out {n0 : Nat} {w : World} {hb : Nat} {ov : Value} {ob : Nat} {tp : Option Addr} {cap : Int} {ext : Bool} {L : List (Ky × Ds)} (s : StX n0 w hb ov ob tp cap 0 0 kO ext L) : Calls Tryz.prog 148 #[.pointer (some ⟨hb, 0, none⟩), .int .i64 1] w fun e w' => Did (.tuple #[.bool false, errV 1]) n0 w hb ov ob cap 0 kO ext L e w' := by
  have cur := Bag.start s
  clear s
  go_enter Tryz.func148, Tryz.ntmps148
  go_wp2_with (first | ((with_reducible show wpList _ _ _ (⟨_, .box 25 _, _, _, _, _⟩ :: _) _ _); refine wpList_box1 rfl 25 _ rfl (.pointer (some ⟨hb, 0, none⟩)) rfl rfl ?_; intro wa hB hL hs; replace cur := cur.push hL hB (Nat.le_refl _) rfl; clear hB hL hs) | ((with_reducible show wpList _ _ _ (⟨_, .box 3 _, _, _, _, _⟩ :: _) _ _); refine wpList_box1 rfl 3 _ rfl (.int .i64 1) rfl rfl ?_; intro wb hB hL hs; replace cur := cur.push hL hB (Nat.le_refl _) rfl; clear hB hL hs) | ((with_reducible show wpList _ _ _ (⟨_, .load 25 (.tmp 2), _, _, _, _⟩ :: _) _ _); refine wpList_load1 (by rfl) 25 _ rfl _ 0 rfl (.pointer (some ⟨hb, 0, none⟩)) (Tryz.isAgg25 _) ((cur.blk 1 rfl).cell 0) ?_) | (go_at_call 106; refine (wbool_out cur.s _).mono ?_; rintro e wX ⟨rfl, rfl⟩))
  go_ret2
  exact ⟨tp, rfl, cur.s, cur.k⟩

theorem eext_in {n0 : Nat} {w : World} {hb : Nat} {ov : Value} {ob : Nat} {tp : Option Addr} {cap fuel : Int} {ext : Bool} {L : List (Ky × Ds)} (s : StX n0 w hb ov ob tp cap fuel 0 kO ext L) (hf : 0 < fuel ∧ fuel ≤ 9223372036854775807) : Calls Tryz.prog 148 #[.pointer (some ⟨hb, 0, none⟩), .int .i64 1] w fun e w' => Did (.tuple #[.bool ext, .nilIface]) n0 w hb ov ob cap (fuel - 1) kO ext L e w' := by
  have cur := Bag.start s
  clear s
  go_enter Tryz.func148, Tryz.ntmps148
  go_wp2_with (first | ((with_reducible show wpList _ _ _ (⟨_, .box 25 _, _, _, _, _⟩ :: _) _ _); refine wpList_box1 rfl 25 _ rfl (.pointer (some ⟨hb, 0, none⟩)) rfl rfl ?_; intro wa hB hL hs; replace cur := cur.push hL hB (Nat.le_refl _) rfl; clear hB hL hs) | ((with_reducible show wpList _ _ _ (⟨_, .box 3 _, _, _, _, _⟩ :: _) _ _); refine wpList_box1 rfl 3 _ rfl (.int .i64 1) rfl rfl ?_; intro wb hB hL hs; replace cur := cur.push hL hB (Nat.le_refl _) rfl; clear hB hL hs) | ((with_reducible show wpList _ _ _ (⟨_, .load 25 (.tmp 2), _, _, _, _⟩ :: _) _ _); refine wpList_load1 (by rfl) 25 _ rfl _ 0 rfl (.pointer (some ⟨hb, 0, none⟩)) (Tryz.isAgg25 _) ((cur.blk 1 rfl).cell 0) ?_) | (go_at_call 106; refine (wbool_in cur.s hf 175 _ (enters_of Tryz.func175 (by kernel_rfl) rfl) (fun x _ => x = ext) (fun _ _ _ h _ => h) (fun W1 s1 k1 => cext_any (cur.go s1 k1).again)).mono ?_; rintro e wX ⟨x, tp', rfl, s9, k9, rfl⟩; replace cur := cur.go s9 k9))
  go_ret2
  exact ⟨tp', rfl, cur.s, cur.k⟩

theorem edef_out {n0 : Nat} {w : World} {hb : Nat} {ov : Value} {ob : Nat} {tp : Option Addr} {cap : Int} {ext : Bool} {L : List (Ky × Ds)} (s : StX n0 w hb ov ob tp cap 0 0 kO ext L) (k : Ky) (d : Ds) : Calls Tryz.prog 56 #[.pointer (some ⟨hb, 0, none⟩), .int .i64 1, .agg (kArr k), .agg (dArr d)] w fun e w' => Did (.tuple #[.bool false, errV 1]) n0 w hb ov ob cap 0 kO ext L e w' := by
  have cur := Bag.start s
  clear s
  go_enter Tryz.func56, Tryz.ntmps56
  go_wp2_with (first | ((with_reducible show wpList _ _ _ (⟨_, .box 25 _, _, _, _, _⟩ :: _) _ _); refine wpList_box1 rfl 25 _ rfl (.pointer (some ⟨hb, 0, none⟩)) rfl rfl ?_; intro wa hB hL hs; replace cur := cur.push hL hB (Nat.le_refl _) rfl; clear hB hL hs) | ((with_reducible show wpList _ _ _ (⟨_, .box 3 _, _, _, _, _⟩ :: _) _ _); refine wpList_box1 rfl 3 _ rfl (.int .i64 1) rfl rfl ?_; intro wb hB hL hs; replace cur := cur.push hL hB (Nat.le_refl _) rfl; clear hB hL hs) | ((with_reducible show wpList _ _ _ (⟨_, .box 40 _, _, _, _, _⟩ :: _) _ _); refine wpList_box_blk rfl 40 _ rfl (kArr k) rfl ?_; intro wc hB hL hs; replace cur := cur.push hL hB (Nat.le_refl _) rfl; clear hB hL hs) | ((with_reducible show wpList _ _ _ (⟨_, .box 43 _, _, _, _, _⟩ :: _) _ _); refine wpList_box_blk rfl 43 _ rfl (dArr d) rfl ?_; intro wd hB hL hs; replace cur := cur.push hL hB (Nat.le_refl _) rfl; clear hB hL hs) | ((with_reducible show wpList _ _ _ (⟨_, .load 25 (.tmp 4), _, _, _, _⟩ :: _) _ _); refine wpList_load1 (by rfl) 25 _ rfl _ 0 rfl (.pointer (some ⟨hb, 0, none⟩)) (Tryz.isAgg25 _) ((cur.blk 3 rfl).cell 0) ?_) | (go_at_call 106; refine (wbool_out cur.s _).mono ?_; rintro e wX ⟨rfl, rfl⟩))
  go_ret2
  exact ⟨tp, rfl, cur.s, cur.k⟩

theorem edef_in {n0 : Nat} {w : World} {hb : Nat} {ov : Value} {ob : Nat} {tp : Option Addr} {cap fuel : Int} {ext : Bool} {L : List (Ky × Ds)} (s : StX n0 w hb ov ob tp cap fuel 0 kO ext L) (hf : 0 < fuel ∧ fuel ≤ 9223372036854775807) (k : Ky) (d : Ds) (hg : kgood k = true) (hlen : L.length < 1000000) (hd : Nums d) (hkd : Dc.kindB uvalid d = true) (hn : LNums L) (hl : LOk L) : Calls Tryz.prog 56 #[.pointer (some ⟨hb, 0, none⟩), .int .i64 1, .agg (kArr k), .agg (dArr d)] w fun e w' => Did (.tuple #[.bool (defB ext L k d), .nilIface]) n0 w hb ov ob cap (fuel - 1) kO ext (defL ext L k d) e w' := by
  have cur := Bag.start s
  clear s
  go_enter Tryz.func56, Tryz.ntmps56
  go_wp2_with (first | ((with_reducible show wpList _ _ _ (⟨_, .box 25 _, _, _, _, _⟩ :: _) _ _); refine wpList_box1 rfl 25 _ rfl (.pointer (some ⟨hb, 0, none⟩)) rfl rfl ?_; intro wa hB hL hs; replace cur := cur.push hL hB (Nat.le_refl _) rfl; clear hB hL hs) | ((with_reducible show wpList _ _ _ (⟨_, .box 3 _, _, _, _, _⟩ :: _) _ _); refine wpList_box1 rfl 3 _ rfl (.int .i64 1) rfl rfl ?_; intro wb hB hL hs; replace cur := cur.push hL hB (Nat.le_refl _) rfl; clear hB hL hs) | ((with_reducible show wpList _ _ _ (⟨_, .box 40 _, _, _, _, _⟩ :: _) _ _); refine wpList_box_blk rfl 40 _ rfl (kArr k) rfl ?_; intro wc hB hL hs; replace cur := cur.push hL hB (Nat.le_refl _) rfl; clear hB hL hs) | ((with_reducible show wpList _ _ _ (⟨_, .box 43 _, _, _, _, _⟩ :: _) _ _); refine wpList_box_blk rfl 43 _ rfl (dArr d) rfl ?_; intro wd hB hL hs; replace cur := cur.push hL hB (Nat.le_refl _) rfl; clear hB hL hs) | ((with_reducible show wpList _ _ _ (⟨_, .load 25 (.tmp 4), _, _, _, _⟩ :: _) _ _); refine wpList_load1 (by rfl) 25 _ rfl _ 0 rfl (.pointer (some ⟨hb, 0, none⟩)) (Tryz.isAgg25 _) ((cur.blk 3 rfl).cell 0) ?_) | (go_at_call 106; refine (wbool_in cur.s hf 107 _ (enters_of Tryz.func107 (by kernel_rfl) rfl) (fun x _ => x = defB ext L k d) (fun _ _ _ h _ => h) (fun W1 s1 k1 => cdef_any k d hg hlen hd hkd hn hl (cur.go s1 k1).again)).mono ?_; rintro e wX ⟨x, tp', rfl, s9, k9, rfl⟩; replace cur := cur.go s9 k9))
  go_ret2
  exact ⟨tp', rfl, cur.s, cur.k⟩


end Go.Proofs.YtoalboilghgalaaGreatDoor

/- EnterGetOwnProperty, EnterGetPrototypeOf, of an ordinary object. -/
namespace Go.Proofs.YtoalboilghgalaaGreatDoor
open Go.RowKit
open Go.Proofs.Dc (V Ds Ky)
attribute [local go_sem] run_store_float

theorem range_own {W : World} {b : Nat} {p : Ds × Bool} (h : Blk W b (wArr p) 192) : W.rangeAt b 0 (dArr p.1).toList := fun j v hv => by
  rw [h.cell, Nat.zero_add]
  have hj : j < 18 := (List.getElem?_eq_some_iff.1 hv).1
  have e : (wArr p).toList = (dArr p.1).toList ++ [.bool p.2] := rfl
  have : (wArr p)[j]? = (wArr p).toList[j]? := by simp
  rw [this, e, List.getElem?_append_left hj]
  exact hv

theorem Bag.tail {n0 : Nat} {w W : World} {hb : Nat} {ov : Value} {ob : Nat} {tp : Option Addr} {cap fuel deep : Int} {kd : Kd} {ext : Bool} {L : List (Ky × Ds)} {x : Nat × Array Value × TypeId} {Bs : Bls} (h : Bag n0 w W hb ov ob tp cap fuel deep kd ext L (x :: Bs)) : Bag n0 w W hb ov ob tp cap fuel deep kd ext L Bs :=
  ⟨h.s, h.k, fun y hy => h.bl y (List.mem_cons_of_mem _ hy), (List.nodup_cons.1 h.nd).2, h.n⟩

theorem eproto_in {n0 : Nat} {w : World} {hb : Nat} {ov : Value} {ob : Nat} {tp : Option Addr} {cap fuel : Int} {ext : Bool} {L : List (Ky × Ds)} (s : StX n0 w hb ov ob tp cap fuel 0 kO ext L) (hf : 0 < fuel ∧ fuel ≤ 9223372036854775807) : Calls Tryz.prog 151 #[.pointer (some ⟨hb, 0, none⟩), .int .i64 1] w fun e w' => Did (.tuple #[.agg (vArr vN), .nilIface]) n0 w hb ov ob cap (fuel - 1) kO ext L e w' := by
  have cur := Bag.start s
  clear s
  go_enter Tryz.func151, Tryz.ntmps151
  go_wp2_with (first | ((with_reducible show wpList _ _ _ (⟨_, .box 25 _, _, _, _, _⟩ :: _) _ _); refine wpList_box1 rfl 25 _ rfl (.pointer (some ⟨hb, 0, none⟩)) rfl rfl ?_; intro wa hB hL hs; replace cur := cur.push hL hB (Nat.le_refl _) rfl; clear hB hL hs) | ((with_reducible show wpList _ _ _ (⟨_, .box 3 _, _, _, _, _⟩ :: _) _ _); refine wpList_box1 rfl 3 _ rfl (.int .i64 1) rfl rfl ?_; intro wb hB hL hs; replace cur := cur.push hL hB (Nat.le_refl _) rfl; clear hB hL hs) | ((with_reducible show wpList _ _ _ (⟨some 4, .alloc 36, _, _, _, _⟩ :: _) _ _); refine wpList_alloc_blk rfl 36 rfl (vArr Dc.v0) zero36 ?_; intro wr hB hL hs; have hler := cur.k.size; replace cur := cur.push hL hB (Nat.le_refl _) rfl; clear hB hL hs) | ((with_reducible show wpList _ _ _ (⟨_, .load 25 (.tmp 2), _, _, _, _⟩ :: _) _ _); refine wpList_load1 (by rfl) 25 _ rfl _ 0 rfl (.pointer (some ⟨hb, 0, none⟩)) (Tryz.isAgg25 _) ((cur.blk 2 rfl).cell 0) ?_) | (go_at_call 114; refine (wval_in cur.s hf 176 _ (enters_of Tryz.func176 (by kernel_rfl) rfl) (fun x => x = vN) (fun W1 s1 k1 => cproto_any (cur.go s1 k1).again.tail)).mono ?_; rintro e wX ⟨x, tp', rfl, s9, k9, rfl⟩; replace cur := cur.go s9 k9) | ((with_reducible show wpList _ _ _ (⟨_, .store 36 (.tmp 4) _, _, _, _, _⟩ :: _) _ _); refine wpList_store_blk rfl 36 _ _ rfl _ (vArr vN) _ 36 rfl rfl (cur.blk 0 rfl) Tryz.size36 rfl (vArr_one _) ?_; intro wg hB hO; replace cur := cur.set 0 rfl hO hB hler; clear hB hO))
  exact bodyPost_ret (results_cell_tmp Tryz.results151 rfl (cur.blk 0 rfl) Tryz.row36 Tryz.size36) rfl ⟨tp', rfl, cur.s, cur.k⟩

theorem eget_out {n0 : Nat} {w : World} {hb : Nat} {ov : Value} {ob : Nat} {tp : Option Addr} {cap : Int} {ext : Bool} {L : List (Ky × Ds)} (s : StX n0 w hb ov ob tp cap 0 0 kO ext L) (k : Ky) : Calls Tryz.prog 66 #[.pointer (some ⟨hb, 0, none⟩), .int .i64 1, .agg (kArr k)] w fun e w' => Did (.tuple #[.agg (dArr Dc.d0), .bool false, errV 1]) n0 w hb ov ob cap 0 kO ext L e w' := by
  have cur := Bag.start s
  clear s
  go_enter Tryz.func66, Tryz.ntmps66
  go_wp2_with (first | ((with_reducible show wpList _ _ _ (⟨_, .box 25 _, _, _, _, _⟩ :: _) _ _); refine wpList_box1 rfl 25 _ rfl (.pointer (some ⟨hb, 0, none⟩)) rfl rfl ?_; intro wa hB hL hs; replace cur := cur.push hL hB (Nat.le_refl _) rfl; clear hB hL hs) | ((with_reducible show wpList _ _ _ (⟨_, .box 3 _, _, _, _, _⟩ :: _) _ _); refine wpList_box1 rfl 3 _ rfl (.int .i64 1) rfl rfl ?_; intro wb hB hL hs; replace cur := cur.push hL hB (Nat.le_refl _) rfl; clear hB hL hs) | ((with_reducible show wpList _ _ _ (⟨_, .box 40 _, _, _, _, _⟩ :: _) _ _); refine wpList_box_blk rfl 40 _ rfl (kArr k) rfl ?_; intro wc hB hL hs; replace cur := cur.push hL hB (Nat.le_refl _) rfl; clear hB hL hs) | ((with_reducible show wpList _ _ _ (⟨some 6, .alloc 43, _, _, _, _⟩ :: _) _ _); refine wpList_alloc_blk rfl 43 rfl (dArr Dc.d0) zero43 ?_; intro wr hB hL hs; have hler := cur.k.size; replace cur := cur.push hL hB (Nat.le_refl _) rfl; clear hB hL hs) | ((with_reducible show wpList _ _ _ (⟨_, .load 25 (.tmp 3), _, _, _, _⟩ :: _) _ _); refine wpList_load1 (by rfl) 25 _ rfl _ 0 rfl (.pointer (some ⟨hb, 0, none⟩)) (Tryz.isAgg25 _) ((cur.blk 3 rfl).cell 0) ?_) | (go_at_call 117; refine (wown_out cur.s _).mono ?_; rintro e wX ⟨rfl, hb'⟩; replace cur := cur.next hb'; clear hb'; have hw9 := cur.k.size) | ((with_reducible show wpList _ _ _ (⟨some 9, .alloc 192, _, _, _, _⟩ :: _) _ _); refine wpList_alloc_blk rfl 192 rfl (wArr (Dc.d0, false)) zero192 ?_; intro wq hB hL hs; have hleq := cur.k.size; replace cur := cur.push hL hB (Nat.le_refl _) rfl; clear hB hL hs) | ((with_reducible show wpList _ _ _ (⟨_, .store 192 (.tmp 9) _, _, _, _, _⟩ :: _) _ _); refine wpList_store_blk rfl 192 _ _ rfl _ (wArr (Dc.d0, false)) _ 192 rfl rfl (cur.blk 0 rfl) Tryz.size192 rfl (wCells_one _) ?_; intro wg hB hO; replace cur := cur.set 0 rfl hO hB hleq; clear hB hO))
  refine Ord.region (fun W => Has W ([(wX.heap.size, wArr (Dc.d0, false), 192)])) [4, 7] (by kernel_rfl) (cur.drew.has (by simp)) ?_
  intro hS
  replace cur := cur.drew
  refine Ord.tp 0 17 rfl rfl ?_
  refine Ord.tk 1 18 rfl rfl (yieldsIf_load_mid (by rfl) 43 _ rfl wX.heap.size 0 rfl ([.int .i64 Dc.d0.val.kind, .bool Dc.d0.val.bool, .float .f64 Dc.d0.val.num, .string Dc.d0.val.str, .int .i64 Dc.d0.val.id, .int .i64 Dc.d0.get.kind, .bool Dc.d0.get.bool, .float .f64 Dc.d0.get.num, .string Dc.d0.get.str, .int .i64 Dc.d0.get.id, .int .i64 Dc.d0.set.kind, .bool Dc.d0.set.bool, .float .f64 Dc.d0.set.num, .string Dc.d0.set.str, .int .i64 Dc.d0.set.id, .int .i64 Dc.d0.w, .int .i64 Dc.d0.e, .int .i64 Dc.d0.c]) _ (fun W hSW => range_own (hSW.blk 0 rfl)) Tryz.underlying43 rfl Tryz.size43) ?_
  refine Ord.tp 2 19 rfl rfl ?_
  refine Ord.tk 3 20 rfl rfl (yields_load1 (by rfl) 4 _ rfl wX.heap.size 18 rfl (.bool false) Tryz.isAgg4 (fun W hSW => (hSW.blk 0 rfl).cell 18)) ?_
  refine Ord.tf 4 21 rfl rfl ?_
  refine Ord.step (i := 5) rfl (by kernel_rfl) (by rfl) ?_
  intro K HK
  refine store_blk_op 43 (.tmp 6) (.tmp 18) rfl _ (dArr Dc.d0) (dArr Dc.d0) 43 rfl rfl (cur.blk 1 rfl) Tryz.size43 rfl (dCells_one _) ?_
  intro wi hBi hOi
  replace cur := cur.set 1 rfl hOi hBi hler
  clear hBi hOi
  refine HK.out _ _ ?_
  clear HK
  refine Ord.kp ?_ ?_
  · exact cur.has (by simp)
  clear hS
  intro hS
  try simp only [List.setIfInBounds_toArray, List.set_cons_zero, List.set_cons_succ]
  refine Ord.step (i := 6) rfl (by kernel_rfl) (by rfl) ?_
  intro K HK
  go_simp
  refine HK.out _ _ ?_
  clear HK
  refine ⟨Ord.np (by kernel_rfl), ?_⟩
  try simp only [List.setIfInBounds_toArray, List.set_cons_zero, List.set_cons_succ]
  refine Ord.tf 7 8 rfl rfl ?_
  refine Ord.done (by kernel_rfl) ?_ _
  clear hS
  go_wp2
  exact bodyPost_ret (results_cell_tmp2 Tryz.results66 rfl (cur.blk 1 rfl) Tryz.row43 Tryz.size43) rfl ⟨tp, rfl, cur.s, cur.k⟩


theorem eget_in {n0 : Nat} {w : World} {hb : Nat} {ov : Value} {ob : Nat} {tp : Option Addr} {cap fuel : Int} {ext : Bool} {L : List (Ky × Ds)} (s : StX n0 w hb ov ob tp cap fuel 0 kO ext L) (hf : 0 < fuel ∧ fuel ≤ 9223372036854775807) (k : Ky) : Calls Tryz.prog 66 #[.pointer (some ⟨hb, 0, none⟩), .int .i64 1, .agg (kArr k)] w fun e w' => Did (.tuple #[.agg (dArr ((getL L k).getD Dc.d0)), .bool (getL L k).isSome, .nilIface]) n0 w hb ov ob cap (fuel - 1) kO ext L e w' := by
  have cur := Bag.start s
  clear s
  go_enter Tryz.func66, Tryz.ntmps66
  go_wp2_with (first | ((with_reducible show wpList _ _ _ (⟨_, .box 25 _, _, _, _, _⟩ :: _) _ _); refine wpList_box1 rfl 25 _ rfl (.pointer (some ⟨hb, 0, none⟩)) rfl rfl ?_; intro wa hB hL hs; replace cur := cur.push hL hB (Nat.le_refl _) rfl; clear hB hL hs) | ((with_reducible show wpList _ _ _ (⟨_, .box 3 _, _, _, _, _⟩ :: _) _ _); refine wpList_box1 rfl 3 _ rfl (.int .i64 1) rfl rfl ?_; intro wb hB hL hs; replace cur := cur.push hL hB (Nat.le_refl _) rfl; clear hB hL hs) | ((with_reducible show wpList _ _ _ (⟨_, .box 40 _, _, _, _, _⟩ :: _) _ _); refine wpList_box_blk rfl 40 _ rfl (kArr k) rfl ?_; intro wc hB hL hs; replace cur := cur.push hL hB (Nat.le_refl _) rfl; clear hB hL hs) | ((with_reducible show wpList _ _ _ (⟨some 6, .alloc 43, _, _, _, _⟩ :: _) _ _); refine wpList_alloc_blk rfl 43 rfl (dArr Dc.d0) zero43 ?_; intro wr hB hL hs; have hler := cur.k.size; replace cur := cur.push hL hB (Nat.le_refl _) rfl; clear hB hL hs) | ((with_reducible show wpList _ _ _ (⟨_, .load 25 (.tmp 3), _, _, _, _⟩ :: _) _ _); refine wpList_load1 (by rfl) 25 _ rfl _ 0 rfl (.pointer (some ⟨hb, 0, none⟩)) (Tryz.isAgg25 _) ((cur.blk 3 rfl).cell 0) ?_) | (go_at_call 117; refine (wown_in cur.s hf 118 _ (enters_of Tryz.func118 (by kernel_rfl) rfl) (fun x => x = (((getL L k).getD Dc.d0), (getL L k).isSome)) (fun W1 s1 k1 => cget_any k (cur.go s1 k1).again.tail)).mono ?_; rintro e wX ⟨x, tp', rfl, s9, k9, rfl⟩; replace cur := cur.go s9 k9; have hw9 := cur.k.size) | ((with_reducible show wpList _ _ _ (⟨some 9, .alloc 192, _, _, _, _⟩ :: _) _ _); refine wpList_alloc_blk rfl 192 rfl (wArr (Dc.d0, false)) zero192 ?_; intro wq hB hL hs; have hleq := cur.k.size; replace cur := cur.push hL hB (Nat.le_refl _) rfl; clear hB hL hs) | ((with_reducible show wpList _ _ _ (⟨_, .store 192 (.tmp 9) _, _, _, _, _⟩ :: _) _ _); refine wpList_store_blk rfl 192 _ _ rfl _ (wArr (((getL L k).getD Dc.d0), (getL L k).isSome)) _ 192 rfl rfl (cur.blk 0 rfl) Tryz.size192 rfl (wCells_one _) ?_; intro wg hB hO; replace cur := cur.set 0 rfl hO hB hleq; clear hB hO))
  refine Ord.region (fun W => Has W ([(wX.heap.size, wArr (((getL L k).getD Dc.d0), (getL L k).isSome), 192)])) [4, 7] (by kernel_rfl) (cur.drew.has (by simp)) ?_
  intro hS
  replace cur := cur.drew
  refine Ord.tp 0 17 rfl rfl ?_
  refine Ord.tk 1 18 rfl rfl (yieldsIf_load_mid (by rfl) 43 _ rfl wX.heap.size 0 rfl ([.int .i64 ((getL L k).getD Dc.d0).val.kind, .bool ((getL L k).getD Dc.d0).val.bool, .float .f64 ((getL L k).getD Dc.d0).val.num, .string ((getL L k).getD Dc.d0).val.str, .int .i64 ((getL L k).getD Dc.d0).val.id, .int .i64 ((getL L k).getD Dc.d0).get.kind, .bool ((getL L k).getD Dc.d0).get.bool, .float .f64 ((getL L k).getD Dc.d0).get.num, .string ((getL L k).getD Dc.d0).get.str, .int .i64 ((getL L k).getD Dc.d0).get.id, .int .i64 ((getL L k).getD Dc.d0).set.kind, .bool ((getL L k).getD Dc.d0).set.bool, .float .f64 ((getL L k).getD Dc.d0).set.num, .string ((getL L k).getD Dc.d0).set.str, .int .i64 ((getL L k).getD Dc.d0).set.id, .int .i64 ((getL L k).getD Dc.d0).w, .int .i64 ((getL L k).getD Dc.d0).e, .int .i64 ((getL L k).getD Dc.d0).c]) _ (fun W hSW => range_own (hSW.blk 0 rfl)) Tryz.underlying43 rfl Tryz.size43) ?_
  refine Ord.tp 2 19 rfl rfl ?_
  refine Ord.tk 3 20 rfl rfl (yields_load1 (by rfl) 4 _ rfl wX.heap.size 18 rfl (.bool (getL L k).isSome) Tryz.isAgg4 (fun W hSW => (hSW.blk 0 rfl).cell 18)) ?_
  refine Ord.tf 4 21 rfl rfl ?_
  refine Ord.step (i := 5) rfl (by kernel_rfl) (by rfl) ?_
  intro K HK
  refine store_blk_op 43 (.tmp 6) (.tmp 18) rfl _ (dArr ((getL L k).getD Dc.d0)) (dArr Dc.d0) 43 rfl rfl (cur.blk 1 rfl) Tryz.size43 rfl (dCells_one _) ?_
  intro wi hBi hOi
  replace cur := cur.set 1 rfl hOi hBi hler
  clear hBi hOi
  refine HK.out _ _ ?_
  clear HK
  refine Ord.kp ?_ ?_
  · exact cur.has (by simp)
  clear hS
  intro hS
  try simp only [List.setIfInBounds_toArray, List.set_cons_zero, List.set_cons_succ]
  refine Ord.step (i := 6) rfl (by kernel_rfl) (by rfl) ?_
  intro K HK
  go_simp
  refine HK.out _ _ ?_
  clear HK
  refine ⟨Ord.np (by kernel_rfl), ?_⟩
  try simp only [List.setIfInBounds_toArray, List.set_cons_zero, List.set_cons_succ]
  refine Ord.tf 7 8 rfl rfl ?_
  refine Ord.done (by kernel_rfl) ?_ _
  clear hS
  go_wp2
  exact bodyPost_ret (results_cell_tmp2 Tryz.results66 rfl (cur.blk 1 rfl) Tryz.row43 Tryz.size43) rfl ⟨tp', rfl, cur.s, cur.k⟩



end Go.Proofs.YtoalboilghgalaaGreatDoor

/- The doors: DefineOwnProperty, GetOwnProperty, GetPrototypeOf. -/
namespace Go.Proofs.YtoalboilghgalaaGreatDoor
open Go.RowKit
open Go.Proofs.Dc (V Ds Ky)
attribute [local go_sem] run_store_float

theorem wrong_zero {k : Ky} {d : Ds} (h : wrongD k d = 0) : kgood k = true ∧ Dc.kindB uvalid d = true := by
  unfold wrongD at h
  cases h1 : kgood k
  · simp [h1] at h
  · cases h2 : Dc.kindB uvalid d
    · simp [h1, h2] at h
    · exact ⟨rfl, rfl⟩

theorem ddef_bad {n0 : Nat} {w : World} {hb : Nat} {ov : Value} {ob : Nat} {tp : Option Addr} {cap fuel : Int} {ext : Bool} {L : List (Ky × Ds)} (s : StX n0 w hb ov ob tp cap fuel 0 kO ext L) (k : Ky) (d : Ds) (hd : Nums d) (n : Int) (hw : wrongD k d = n) (hn0 : n ≠ 0) : Calls Tryz.prog 14 #[.pointer (some ⟨hb, 0, none⟩), .int .i64 1, .agg (kArr k), .agg (dArr d)] w fun e w' => Did (.tuple #[.bool false, errV n]) n0 w hb ov ob cap fuel kO ext L e w' := by
  have hne1 : (n == 0) = false := by simpa using hn0
  have hne2 : (n != 0) = true := by simpa using hn0
  have HW := Lib.hid hw
  have cur := Bag.start s
  clear s hw hn0
  go_enter Tryz.func14, Tryz.ntmps14
  go_wp2_with (first | ((with_reducible show wpList _ _ _ (⟨_, .box 40 _, _, _, _, _⟩ :: _) _ _); refine wpList_box_blk rfl 40 _ rfl (kArr k) rfl ?_; intro wc hB hL hs; replace cur := cur.push hL hB (Nat.le_refl _) rfl; clear hB hL hs) | ((with_reducible show wpList _ _ _ (⟨_, .box 43 _, _, _, _, _⟩ :: _) _ _); refine wpList_box_blk rfl 43 _ rfl (dArr d) rfl ?_; intro wd hB hL hs; replace cur := cur.push hL hB (Nat.le_refl _) rfl; clear hB hL hs) | (go_at_call 55; refine (wrong_any cur.s kO_ok k d hd w.heap.size wc.heap.size (cur.blk 1 rfl) (cur.blk 0 rfl)).mono ?_; rw [HW.out]; rintro e wX ⟨rfl, hb'⟩; replace cur := cur.next hb'; clear hb'))
  go_ret2
  exact ⟨tp, rfl, cur.s, cur.k⟩

theorem ddef_in {n0 : Nat} {w : World} {hb : Nat} {ov : Value} {ob : Nat} {tp : Option Addr} {cap fuel : Int} {ext : Bool} {L : List (Ky × Ds)} (s : StX n0 w hb ov ob tp cap fuel 0 kO ext L) (hf : 0 < fuel ∧ fuel ≤ 9223372036854775807) (k : Ky) (d : Ds) (hd : Nums d) (hw : wrongD k d = 0) (hlen : L.length < 1000000) (hn : LNums L) (hl : LOk L) : Calls Tryz.prog 14 #[.pointer (some ⟨hb, 0, none⟩), .int .i64 1, .agg (kArr k), .agg (dArr d)] w fun e w' => Did (.tuple #[.bool (defB ext L k d), .nilIface]) n0 w hb ov ob cap (fuel - 1) kO ext (defL ext L k d) e w' := by
  obtain ⟨hg, hkd⟩ := wrong_zero hw
  have HW := Lib.hid hw
  have HG := Lib.hid hg
  have HKD := Lib.hid hkd
  have HL := Lib.hid hlen
  have HF := Lib.hid hf
  have cur := Bag.start s
  clear s hw hg hkd hlen hf
  go_enter Tryz.func14, Tryz.ntmps14
  go_wp2_with (first | ((with_reducible show wpList _ _ _ (⟨_, .box 40 _, _, _, _, _⟩ :: _) _ _); refine wpList_box_blk rfl 40 _ rfl (kArr k) rfl ?_; intro wc hB hL hs; replace cur := cur.push hL hB (Nat.le_refl _) rfl; clear hB hL hs) | ((with_reducible show wpList _ _ _ (⟨_, .box 43 _, _, _, _, _⟩ :: _) _ _); refine wpList_box_blk rfl 43 _ rfl (dArr d) rfl ?_; intro wd hB hL hs; replace cur := cur.push hL hB (Nat.le_refl _) rfl; clear hB hL hs) | (go_at_call 55; refine (wrong_any cur.s kO_ok k d hd w.heap.size wc.heap.size (cur.blk 1 rfl) (cur.blk 0 rfl)).mono ?_; rw [HW.out]; rintro e wX ⟨rfl, hb'⟩; replace cur := cur.next hb'; clear hb') | ((with_reducible show wpList _ _ _ (⟨_, .load 40 (.tmp 6), _, _, _, _⟩ :: _) _ _); refine wpList_load_blk rfl 40 _ rfl _ rfl (cur.blk 1 rfl) Tryz.row40 Tryz.size40 ?_) | ((with_reducible show wpList _ _ _ (⟨_, .load 43 (.tmp 7), _, _, _, _⟩ :: _) _ _); refine wpList_load_blk rfl 43 _ rfl _ rfl (cur.blk 0 rfl) Tryz.row43 Tryz.size43 ?_) | (go_at_call 56; refine (edef_in cur.s HF.out k d HG.out HL.out hd HKD.out hn hl).mono ?_; rintro e wY ⟨tp', rfl, s9, k9⟩; replace cur := cur.go s9 k9))
  go_ret2
  exact ⟨tp', rfl, cur.s, cur.k⟩

theorem dget_in {n0 : Nat} {w : World} {hb : Nat} {ov : Value} {ob : Nat} {tp : Option Addr} {cap fuel : Int} {ext : Bool} {L : List (Ky × Ds)} (s : StX n0 w hb ov ob tp cap fuel 0 kO ext L) (hf : 0 < fuel ∧ fuel ≤ 9223372036854775807) (k : Ky) (hg : kgood k = true) : Calls Tryz.prog 23 #[.pointer (some ⟨hb, 0, none⟩), .int .i64 1, .agg (kArr k)] w fun e w' => Did (.tuple #[.agg (dArr ((getL L k).getD Dc.d0)), .bool (getL L k).isSome, .nilIface]) n0 w hb ov ob cap (fuel - 1) kO ext L e w' := by
  have HG := Lib.hid hg
  have HF := Lib.hid hf
  have cur := Bag.start s
  clear s hg hf
  go_enter Tryz.func23, Tryz.ntmps23
  go_wp2_with (first | ((with_reducible show wpList _ _ _ (⟨_, .box 40 _, _, _, _, _⟩ :: _) _ _); refine wpList_box_blk rfl 40 _ rfl (kArr k) rfl ?_; intro wc hB hL hs; replace cur := cur.push hL hB (Nat.le_refl _) rfl; clear hB hL hs) | ((with_reducible show wpList _ _ _ (⟨some 6, .alloc 43, _, _, _, _⟩ :: _) _ _); refine wpList_alloc_blk rfl 43 rfl (dArr Dc.d0) zero43 ?_; intro wr hB hL hs; have hler := cur.k.size; replace cur := cur.push hL hB (Nat.le_refl _) rfl; clear hB hL hs) | (go_at_call 55; refine (wrong_key cur.s k w.heap.size (cur.blk 1 rfl)).mono ?_; rw [HG.out]; rintro e wX ⟨rfl, hb'⟩; replace cur := cur.next hb'; clear hb') | ((with_reducible show wpList _ _ _ (⟨_, .load 40 (.tmp 5), _, _, _, _⟩ :: _) _ _); refine wpList_load_blk rfl 40 _ rfl _ rfl (cur.blk 1 rfl) Tryz.row40 Tryz.size40 ?_) | (go_at_call 66; refine (eget_in cur.s HF.out k).mono ?_; rintro e wY ⟨tp', rfl, s9, k9⟩; replace cur := cur.go s9 k9) | ((with_reducible show wpList _ _ _ (⟨_, .store 43 (.tmp 6) _, _, _, _, _⟩ :: _) _ _); refine wpList_store_blk rfl 43 _ _ rfl _ (dArr ((getL L k).getD Dc.d0)) _ 43 rfl rfl (cur.blk 0 rfl) Tryz.size43 rfl (dCells_one _) ?_; intro wg hB hO; replace cur := cur.set 0 rfl hO hB hler; clear hB hO))
  exact bodyPost_ret (results_cell_tmp2 Tryz.results23 rfl (cur.blk 0 rfl) Tryz.row43 Tryz.size43) rfl ⟨tp', rfl, cur.s, cur.k⟩

theorem dproto_in {n0 : Nat} {w : World} {hb : Nat} {ov : Value} {ob : Nat} {tp : Option Addr} {cap fuel : Int} {ext : Bool} {L : List (Ky × Ds)} (s : StX n0 w hb ov ob tp cap fuel 0 kO ext L) (hf : 0 < fuel ∧ fuel ≤ 9223372036854775807) : Calls Tryz.prog 122 #[.pointer (some ⟨hb, 0, none⟩), .int .i64 1] w fun e w' => Did (.tuple #[.agg (vArr vN), .nilIface]) n0 w hb ov ob cap (fuel - 1) kO ext L e w' := by
  have HF := Lib.hid hf
  have cur := Bag.start s
  clear s hf
  go_enter Tryz.func122, Tryz.ntmps122
  go_wp2_with (first | ((with_reducible show wpList _ _ _ (⟨some 4, .alloc 36, _, _, _, _⟩ :: _) _ _); refine wpList_alloc_blk rfl 36 rfl (vArr Dc.v0) zero36 ?_; intro wr hB hL hs; have hler := cur.k.size; replace cur := cur.push hL hB (Nat.le_refl _) rfl; clear hB hL hs) | (go_at_call 55; refine (wrong_none cur.s).mono ?_; rintro e wX ⟨rfl, hb'⟩; replace cur := cur.next hb'; clear hb') | (go_at_call 151; refine (eproto_in cur.s HF.out).mono ?_; rintro e wY ⟨tp', rfl, s9, k9⟩; replace cur := cur.go s9 k9) | ((with_reducible show wpList _ _ _ (⟨_, .store 36 (.tmp 4) _, _, _, _, _⟩ :: _) _ _); refine wpList_store_blk rfl 36 _ _ rfl _ (vArr vN) _ 36 rfl rfl (cur.blk 0 rfl) Tryz.size36 rfl (vArr_one _) ?_; intro wg hB hO; replace cur := cur.set 0 rfl hO hB hler; clear hB hO))
  exact bodyPost_ret (results_cell_tmp Tryz.results122 rfl (cur.blk 0 rfl) Tryz.row36 Tryz.size36) rfl ⟨tp', rfl, cur.s, cur.k⟩


end Go.Proofs.YtoalboilghgalaaGreatDoor
