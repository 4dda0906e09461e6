/- Lemmas for this claim, in parts: Keys2, Integ1, Integ2, Integ3, Integ4, Integ5, Integ6, New, Made, Add, Make, Fixed1, Fixed2, Fixed3, Isfr, Pref, Awk, Awake, Shape. -/
import Derived.Test.YtoalboilghgalaaGreatDoorA30
import Derived.Test.YtoalboilghgalaaGreatDoorA33
import Derived.Deep.DeepCutAuto
/- The keys of an object: from the properties to the door. -/
namespace Go.Proofs.YtoalboilghgalaaGreatDoor
open Go.RowKit
open Go.Proofs.Dc (V Ds Ky)
attribute [local go_sem] run_store_float

attribute [local go_sem] Oper.semAt_some
/-- the keys of a list of properties, in Order's order -/
def sortK (L : List (Ky × Ds)) : List Ky := Srt.stable ltK (L.map (·.1))
def LGood (L : List (Ky × Ds)) : Prop := ∀ p ∈ L, kgood p.1 = true
theorem KeysAt.weak {W : World} {b b' : Nat} {v : Value} {l : List Ky} (h : KeysAt W b v l) (hb : b' ≤ b) : KeysAt W b' v l := by
  rcases h with h | ⟨g, c, r, h1, h2, h3⟩
  · exact .inl h
  · exact .inr ⟨g, c, r, h1, Nat.le_trans hb h2, h3⟩
theorem KeysAt.keeps {n0 : Nat} {W W' : World} {b : Nat} {v : Value} {l : List Ky} (h : KeysAt W b v l) (hk : Keeps n0 W W') : KeysAt W' b v l := by
  rcases h with h | ⟨g, c, r, h1, h2, h3⟩
  · exact .inl h
  · exact .inr ⟨g, c, r, h1, h2, h3.keeps hk rfl⟩
/-- the properties of an object in a row of their own, or nil -/
def PropsAt (W : World) (v : Value) (L : List (Ky × Ds)) : Prop := (L = [] ∧ v = .slice none 0 0) ∨ ∃ base g cap, v = .slice (some ⟨g, 0, none⟩) L.length cap ∧ RowAt W base 45 20 g L.length cap (pAll L)
set_option maxRecDepth 100000 in
set_option maxHeartbeats 4000000 in
theorem pkeys_any {n0 : Nat} {w : World} {hb : Nat} {ov : Value} {ob : Nat} {tp : Option Addr} {cap fuel deep : Int} {kd : Kd} {ext : Bool} {L : List (Ky × Ds)} (s : StX n0 w hb ov ob tp cap fuel deep kd ext L) (hg : LGood L) : Calls Tryz.prog 243 #[.pointer (some ⟨ob, 9, none⟩)] w fun e w' => ∃ v, e = .returned v ∧ KeysAt w' 0 v (sortK L) ∧ Below w.heap.size w w' := by
  have hco := s.o.cellO
  have HG := Lib.hid hg
  rcases s.tab with ⟨rfl, rfl⟩ | ⟨tb, mb, ev, rfl, h1, h2, ht⟩
  · go_enter Tryz.func243, Tryz.ntmps243
    go_wp2
    go_ret
    exact ⟨_, rfl, .inl ⟨rfl, rfl⟩, Below.refl _ _⟩
  · have hTT := s.tabs
    go_enter Tryz.func243, Tryz.ntmps243
    go_wp2_with (go_at_call 252; refine (keys_walk n0 tb mb ev L _ ht hTT HG.out ht.len).mono ?_; rintro e w1 ⟨v, rfl, hk, hb⟩)
    go_ret
    exact ⟨v, rfl, hk.weak (Nat.zero_le _), hb⟩

set_option maxRecDepth 100000 in
set_option maxHeartbeats 4000000 in
theorem pall_any {n0 : Nat} {w : World} {hb : Nat} {ov : Value} {ob : Nat} {tp : Option Addr} {cap fuel deep : Int} {kd : Kd} {ext : Bool} {L : List (Ky × Ds)} (s : StX n0 w hb ov ob tp cap fuel deep kd ext L) : Calls Tryz.prog 85 #[.pointer (some ⟨ob, 9, none⟩)] w fun e w' => ∃ v, e = .returned v ∧ PropsAt w' v L ∧ Below w.heap.size w w' := by
  have hco := s.o.cellO
  rcases s.tab with ⟨rfl, rfl⟩ | ⟨tb, mb, ev, rfl, h1, h2, ht⟩
  · go_enter Tryz.func85, Tryz.ntmps85
    go_wp2
    go_ret
    exact ⟨_, rfl, .inl ⟨rfl, rfl⟩, Below.refl _ _⟩
  · go_enter Tryz.func85, Tryz.ntmps85
    go_wp2_with (go_at_call 127; refine (props_any n0 tb mb ev L _ ht).mono ?_; rintro e w1 ⟨g, cp, rfl, hr, hb⟩)
    go_ret
    exact ⟨_, rfl, .inr ⟨_, g, cp, rfl, hr⟩, hb⟩

set_option maxRecDepth 100000 in
set_option maxHeartbeats 4000000 in
theorem hkeys_any {n0 : Nat} {w : World} {hb : Nat} {ov : Value} {ob : Nat} {tp : Option Addr} {cap fuel deep : Int} {kd : Kd} {ext : Bool} {L : List (Ky × Ds)} (s : StX n0 w hb ov ob tp cap fuel deep kd ext L) (hg : LGood L) : Calls Tryz.prog 228 #[.pointer (some ⟨hb, 0, none⟩), .int .i64 1] w fun e w' => ∃ v, e = .returned v ∧ KeysAt w' 0 v (sortK L) ∧ Below w.heap.size w w' := by
  have HG := Lib.hid hg
  go_enter Tryz.func228, Tryz.ntmps228
  go_wp2_with (first | (go_at_call 84; refine (at_any s).mono ?_; rintro e wX ⟨rfl, rfl⟩) | (go_at_call 243; refine (pkeys_any s HG.out).mono ?_; rintro e w1 ⟨v, rfl, hk, hb⟩))
  go_ret
  exact ⟨v, rfl, hk, hb⟩

set_option maxRecDepth 100000 in
set_option maxHeartbeats 4000000 in
theorem ordkeys_any {n0 : Nat} {w : World} {hb : Nat} {ov : Value} {ob : Nat} {tp : Option Addr} {cap fuel deep : Int} {kd : Kd} {ext : Bool} {L : List (Ky × Ds)} (s : StX n0 w hb ov ob tp cap fuel deep kd ext L) (hg : LGood L) : Calls Tryz.prog 277 #[.agg #[], .pointer (some ⟨hb, 0, none⟩), .int .i64 1] w fun e w' => ∃ v, e = .returned (.tuple #[v, .nilIface]) ∧ KeysAt w' 0 v (sortK L) ∧ StX n0 w' hb ov ob tp cap fuel deep kd ext L ∧ Keeps n0 w w' := by
  have HG := Lib.hid hg
  have cur := Bag.start s
  clear s
  go_enter Tryz.func277, Tryz.ntmps277
  go_wp2_with (first | ((with_reducible show wpList _ _ _ (⟨_, .box 105 _, _, _, _, _⟩ :: _) _ _); refine wpList_box_blk rfl 105 _ rfl (#[]) rfl ?_; intro wz hB hL hs; replace cur := cur.push hL hB (Nat.le_refl _) rfl; clear hB hL hs) | (go_at_call 228; refine (hkeys_any cur.s HG.out).mono ?_; rintro e wY ⟨v, rfl, hk, hb9⟩; replace cur := cur.next hb9))
  go_ret2
  exact ⟨v, rfl, hk, cur.s, cur.k⟩

set_option maxRecDepth 100000 in
set_option maxHeartbeats 4000000 in
theorem ckeys_any {n0 : Nat} {w : World} {hb : Nat} {ov : Value} {ob : Nat} {tp : Option Addr} {cap fuel deep : Int} {ext : Bool} {L : List (Ky × Ds)} {bh bi : Nat} (hg : LGood L) (cur : Bag n0 w w hb ov ob tp cap fuel deep kO ext L [(bi, #[.int .i64 1], 3), (bh, #[.pointer (some ⟨hb, 0, none⟩)], 25)]) : Calls Tryz.prog 113 #[.pointer (some ⟨bh, 0, none⟩), .pointer (some ⟨bi, 0, none⟩)] w (Gives (α := Value) (fun x => x) (fun x W => KeysAt W 0 x (sortK L)) n0 w hb ov ob cap fuel deep kO ext L) := by
  have hm := mOwnPropertyKeys
  have hmv : kO.mv = .iface 105 (.agg #[]) := rfl
  go_enter Tryz.func113, Tryz.ntmps113
  go_wp2
  refine Ord.region (fun W => Has W ([(bi, #[.int .i64 1], 3), (bh, #[.pointer (some ⟨hb, 0, none⟩)], 25)])) [6, 7, 8, 9] (by kernel_rfl) (cur.drew.has (by simp)) ?_
  intro hS
  replace cur := cur.drew
  refine Ord.take (i := 0) 4 rfl rfl (by kernel_rfl) (by kernel_rfl) (by kernel_rfl) (by kernel_rfl) (fun _ _ _ h => h) (by assumption) (yields_load1 (by rfl) 25 _ rfl bh 0 rfl (.pointer (some ⟨hb, 0, none⟩)) Tryz.isAgg25 (fun W hSW => (hSW.blk 1 rfl).cell 0)) ?_
  try simp only [List.setIfInBounds_toArray, List.set_cons_zero, List.set_cons_succ]
  refine Ord.take (i := 1) 5 rfl rfl (by kernel_rfl) (by kernel_rfl) (by kernel_rfl) (by kernel_rfl) (fun _ _ _ h => h) (by assumption) (yields_load1 (by rfl) 3 _ rfl bi 0 rfl (.int .i64 1) Tryz.isAgg3 (fun W hSW => (hSW.blk 0 rfl).cell 0)) ?_
  try simp only [List.setIfInBounds_toArray, List.set_cons_zero, List.set_cons_succ]
  refine Ord.take (i := 3) 7 rfl rfl (by kernel_rfl) (by kernel_rfl) (by kernel_rfl) (by kernel_rfl) (fun _ _ _ h => h) (by assumption) (yields_load1 (by rfl) 25 _ rfl bh 0 rfl (.pointer (some ⟨hb, 0, none⟩)) Tryz.isAgg25 (fun W hSW => (hSW.blk 1 rfl).cell 0)) ?_
  try simp only [List.setIfInBounds_toArray, List.set_cons_zero, List.set_cons_succ]
  refine Ord.take (i := 4) 8 rfl rfl (by kernel_rfl) (by kernel_rfl) (by kernel_rfl) (by kernel_rfl) (fun _ _ _ h => h) (by assumption) (yields_load1 (by rfl) 3 _ rfl bi 0 rfl (.int .i64 1) Tryz.isAgg3 (fun W hSW => (hSW.blk 0 rfl).cell 0)) ?_
  try simp only [List.setIfInBounds_toArray, List.set_cons_zero, List.set_cons_succ]
  refine Ord.step (i := 2) rfl (by kernel_rfl) (by rfl) ?_
  intro K HK
  go_simp
  go_at_call 108
  refine (does_any cur.s).mono ?_
  rintro e wX ⟨rfl, rfl⟩
  refine HK.out _ _ ?_
  clear HK
  refine Ord.keep (S := fun W => Has W ([(bi, #[.int .i64 1], 3), (bh, #[.pointer (some ⟨hb, 0, none⟩)], 25)])) ?_ ?_
  · exact cur.has (by simp)
  clear hS
  intro hS
  try simp only [List.setIfInBounds_toArray, List.set_cons_zero, List.set_cons_succ]
  refine Ord.step (i := 5) rfl (by kernel_rfl) (by rfl) ?_
  intro K HK
  go_simp
  go_at_call 277
  refine (ordkeys_any cur.s hg).mono ?_
  rintro e wY ⟨v, rfl, hk, s9, k9⟩
  replace cur := cur.go s9 k9
  refine HK.out _ _ ?_
  clear HK
  refine ⟨Ord.no_pend (S := fun W => Has W ([(bi, #[.int .i64 1], 3), (bh, #[.pointer (some ⟨hb, 0, none⟩)], 25)])) (by kernel_rfl), ?_⟩
  try simp only [List.setIfInBounds_toArray, List.set_cons_zero, List.set_cons_succ]
  refine Ord.take_free (i := 6) (v := ?_) 10 rfl rfl (by kernel_rfl) (by kernel_rfl) (by kernel_rfl) (by kernel_rfl) (fun _ _ _ h => h) (by first | (intro _; assumption) | exact Ord.no_pend (S := fun W => Has W ([(bi, #[.int .i64 1], 3), (bh, #[.pointer (some ⟨hb, 0, none⟩)], 25)])) (by kernel_rfl)) (Or.inl ⟨by rfl, ?_⟩) ?_
  rotate_left
  · (intro W hSW; first | (with_reducible rfl) | (go_simp; done) | (go_simp; with_reducible rfl))
  try simp only [List.setIfInBounds_toArray, List.set_cons_zero, List.set_cons_succ]
  refine Ord.take_free (i := 7) (v := ?_) 11 rfl rfl (by kernel_rfl) (by kernel_rfl) (by kernel_rfl) (by kernel_rfl) (fun _ _ _ h => h) (by first | (intro _; assumption) | exact Ord.no_pend (S := fun W => Has W ([(bi, #[.int .i64 1], 3), (bh, #[.pointer (some ⟨hb, 0, none⟩)], 25)])) (by kernel_rfl)) (Or.inl ⟨by rfl, ?_⟩) ?_
  rotate_left
  · (intro W hSW; first | (with_reducible rfl) | (go_simp; done) | (go_simp; with_reducible rfl))
  try simp only [List.setIfInBounds_toArray, List.set_cons_zero, List.set_cons_succ]
  refine Ord.take_free (i := 8) (v := ?_) 2 rfl rfl (by kernel_rfl) (by kernel_rfl) (by kernel_rfl) (by kernel_rfl) (fun _ _ _ h => h) (by first | (intro _; assumption) | exact Ord.no_pend (S := fun W => Has W ([(bi, #[.int .i64 1], 3), (bh, #[.pointer (some ⟨hb, 0, none⟩)], 25)])) (by kernel_rfl)) (Or.inl ⟨by rfl, ?_⟩) ?_
  rotate_left
  · (intro W hSW; first | (with_reducible rfl) | (go_simp; done) | (go_simp; with_reducible rfl))
  try simp only [List.setIfInBounds_toArray, List.set_cons_zero, List.set_cons_succ]
  refine Ord.take_free (i := 9) (v := ?_) 3 rfl rfl (by kernel_rfl) (by kernel_rfl) (by kernel_rfl) (by kernel_rfl) (fun _ _ _ h => h) (by first | (intro _; assumption) | exact Ord.no_pend (S := fun W => Has W ([(bi, #[.int .i64 1], 3), (bh, #[.pointer (some ⟨hb, 0, none⟩)], 25)])) (by kernel_rfl)) (Or.inl ⟨by rfl, ?_⟩) ?_
  rotate_left
  · (intro W hSW; first | (with_reducible rfl) | (go_simp; done) | (go_simp; with_reducible rfl))
  try simp only [List.setIfInBounds_toArray, List.set_cons_zero, List.set_cons_succ]
  refine Ord.done (by kernel_rfl) ?_ _
  clear hS
  go_wp2
  go_ret2
  exact ⟨v, tp, rfl, cur.s, cur.k, hk⟩


set_option maxRecDepth 100000 in
set_option maxHeartbeats 4000000 in
theorem ekeys_out {n0 : Nat} {w : World} {hb : Nat} {ov : Value} {ob : Nat} {tp : Option Addr} {cap : Int} {ext : Bool} {L : List (Ky × Ds)} (s : StX n0 w hb ov ob tp cap 0 0 kO ext L) : Calls Tryz.prog 63 #[.pointer (some ⟨hb, 0, none⟩), .int .i64 1] w fun e w' => Did (.tuple #[.slice none 0 0, errV 1]) n0 w hb ov ob cap 0 kO ext L e w' := by
  have cur := Bag.start s
  clear s
  go_enter Tryz.func63, Tryz.ntmps63
  go_wp2_with (first | ((with_reducible show wpList _ _ _ (⟨_, .box 25 _, _, _, _, _⟩ :: _) _ _); refine wpList_box1 rfl 25 _ rfl (.pointer (some ⟨hb, 0, none⟩)) rfl rfl ?_; intro wa hB hL hs; replace cur := cur.push hL hB (Nat.le_refl _) rfl; clear hB hL hs) | ((with_reducible show wpList _ _ _ (⟨_, .box 3 _, _, _, _, _⟩ :: _) _ _); refine wpList_box1 rfl 3 _ rfl (.int .i64 1) rfl rfl ?_; intro wb hB hL hs; replace cur := cur.push hL hB (Nat.le_refl _) rfl; clear hB hL hs) | ((with_reducible show wpList _ _ _ (⟨_, .load 25 (.tmp 2), _, _, _, _⟩ :: _) _ _); refine wpList_load1 (by rfl) 25 _ rfl _ 0 rfl (.pointer (some ⟨hb, 0, none⟩)) (Tryz.isAgg25 _) ((cur.blk 1 rfl).cell 0) ?_) | (go_at_call 112; refine (wkeys_out cur.s _).mono ?_; rintro e wX ⟨rfl, rfl⟩))
  go_ret2
  exact ⟨tp, rfl, cur.s, cur.k⟩

set_option maxRecDepth 100000 in
set_option maxHeartbeats 4000000 in
theorem ekeys_in {n0 : Nat} {w : World} {hb : Nat} {ov : Value} {ob : Nat} {tp : Option Addr} {cap fuel : Int} {ext : Bool} {L : List (Ky × Ds)} (s : StX n0 w hb ov ob tp cap fuel 0 kO ext L) (hf : 0 < fuel ∧ fuel ≤ 9223372036854775807) (hg : LGood L) : Calls Tryz.prog 63 #[.pointer (some ⟨hb, 0, none⟩), .int .i64 1] w fun e w' => ∃ v tp, e = .returned (.tuple #[v, .nilIface]) ∧ KeysAt w' 0 v (sortK L) ∧ StX n0 w' hb ov ob tp cap (fuel - 1) 0 kO ext L ∧ Keeps n0 w w' := by
  have HG := Lib.hid hg
  have HF := Lib.hid hf
  have cur := Bag.start s
  clear s hf hg
  go_enter Tryz.func63, Tryz.ntmps63
  go_wp2_with (first | ((with_reducible show wpList _ _ _ (⟨_, .box 25 _, _, _, _, _⟩ :: _) _ _); refine wpList_box1 rfl 25 _ rfl (.pointer (some ⟨hb, 0, none⟩)) rfl rfl ?_; intro wa hB hL hs; replace cur := cur.push hL hB (Nat.le_refl _) rfl; clear hB hL hs) | ((with_reducible show wpList _ _ _ (⟨_, .box 3 _, _, _, _, _⟩ :: _) _ _); refine wpList_box1 rfl 3 _ rfl (.int .i64 1) rfl rfl ?_; intro wb hB hL hs; replace cur := cur.push hL hB (Nat.le_refl _) rfl; clear hB hL hs) | ((with_reducible show wpList _ _ _ (⟨_, .load 25 (.tmp 2), _, _, _, _⟩ :: _) _ _); refine wpList_load1 (by rfl) 25 _ rfl _ 0 rfl (.pointer (some ⟨hb, 0, none⟩)) (Tryz.isAgg25 _) ((cur.blk 1 rfl).cell 0) ?_) | (go_at_call 112; refine (wkeys_in cur.s HF.out 113 _ (enters_of Tryz.func113 (by kernel_rfl) rfl) (fun x W => KeysAt W 0 x (sortK L)) (fun _ _ _ h hk => h.keeps hk) (fun W1 s1 k1 => ckeys_any HG.out (cur.go s1 k1).again)).mono ?_; rintro e wX ⟨x, tp', rfl, s9, k9, hk⟩; replace cur := cur.go s9 k9))
  go_ret2
  exact ⟨x, tp', rfl, hk, cur.s, cur.k⟩

set_option maxRecDepth 100000 in
set_option maxHeartbeats 4000000 in
theorem dkeys_out {n0 : Nat} {w : World} {hb : Nat} {ov : Value} {ob : Nat} {tp : Option Addr} {cap : Int} {ext : Bool} {L : List (Ky × Ds)} (s : StX n0 w hb ov ob tp cap 0 0 kO ext L) : Calls Tryz.prog 20 #[.pointer (some ⟨hb, 0, none⟩), .int .i64 1] w fun e w' => Did (.tuple #[.slice none 0 0, errV 1]) n0 w hb ov ob cap 0 kO ext L e w' := by
  have cur := Bag.start s
  clear s
  go_enter Tryz.func20, Tryz.ntmps20
  go_wp2_with (first | (go_at_call 55; refine (wrong_none cur.s).mono ?_; rintro e wX ⟨rfl, hb'⟩; replace cur := cur.next hb'; clear hb') | (go_at_call 63; refine (ekeys_out cur.s).mono ?_; rintro e wX ⟨tp', rfl, s9, k9⟩; replace cur := cur.go s9 k9))
  go_ret2
  exact ⟨tp', rfl, cur.s, cur.k⟩

set_option maxRecDepth 100000 in
set_option maxHeartbeats 4000000 in
theorem dkeys_in {n0 : Nat} {w : World} {hb : Nat} {ov : Value} {ob : Nat} {tp : Option Addr} {cap fuel : Int} {ext : Bool} {L : List (Ky × Ds)} (s : StX n0 w hb ov ob tp cap fuel 0 kO ext L) (hf : 0 < fuel ∧ fuel ≤ 9223372036854775807) (hg : LGood L) : Calls Tryz.prog 20 #[.pointer (some ⟨hb, 0, none⟩), .int .i64 1] w fun e w' => ∃ v tp, e = .returned (.tuple #[v, .nilIface]) ∧ KeysAt w' 0 v (sortK L) ∧ StX n0 w' hb ov ob tp cap (fuel - 1) 0 kO ext L ∧ Keeps n0 w w' := by
  have HG := Lib.hid hg
  have HF := Lib.hid hf
  have cur := Bag.start s
  clear s hf hg
  go_enter Tryz.func20, Tryz.ntmps20
  go_wp2_with (first | (go_at_call 55; refine (wrong_none cur.s).mono ?_; rintro e wX ⟨rfl, hb'⟩; replace cur := cur.next hb'; clear hb') | (go_at_call 63; refine (ekeys_in cur.s HF.out HG.out).mono ?_; rintro e wX ⟨x, tp', rfl, hk, s9, k9⟩; replace cur := cur.go s9 k9))
  go_ret2
  exact ⟨x, tp', rfl, hk, cur.s, cur.k⟩


end Go.Proofs.YtoalboilghgalaaGreatDoor

/- integrity: there, define, the closures of Seal. -/
namespace Go.Proofs.YtoalboilghgalaaGreatDoor
open Go.RowKit
open Go.Proofs.Dc (V Ds Ky)
attribute [local go_sem] run_store_float

attribute [local go_sem] Oper.semAt_some
/-- what fixing asks of a property -/
def fixE (fz : Bool) (now : Ds) : Ds := if fz && Dc.there now.val then Dc.freezeD else Dc.sealD
theorem fixE_apply (fz ext : Bool) (now : Ds) (h : Dc.Whole uvalid now) : Dc.apply uvalid ext now (fixE fz now) = (fixD fz now, true) := by
  unfold fixE fixD
  cases e : fz && Dc.there now.val
  · simp only [Bool.false_eq_true, if_false]
    exact Dc.apply_seal ext h
  · simp only [if_true]
    exact Dc.apply_freeze ext h (by simp only [Bool.and_eq_true] at e; exact e.2)
theorem fix_defB (fz ext : Bool) (L : List (Ky × Ds)) (k : Ky) (h : Dc.Whole uvalid ((getL L k).getD Dc.d0)) : defB ext L k (fixE fz ((getL L k).getD Dc.d0)) = true := by
  unfold defB; rw [fixE_apply fz ext _ h]
theorem fix_defL (fz ext : Bool) (L : List (Ky × Ds)) (k : Ky) (h : Dc.Whole uvalid ((getL L k).getD Dc.d0)) : defL ext L k (fixE fz ((getL L k).getD Dc.d0)) = putL L k (fixD fz ((getL L k).getD Dc.d0)) := by
  unfold defL; rw [fixE_apply fz ext _ h]; rfl
theorem Nums.sealD : Nums Dc.sealD := ⟨by decide, by decide, by decide⟩
theorem Nums.freezeD : Nums Dc.freezeD := ⟨by decide, by decide, by decide⟩
theorem Nums.fixE (fz : Bool) (now : Ds) : Nums (YtoalboilghgalaaGreatDoor.fixE fz now) := by
  unfold YtoalboilghgalaaGreatDoor.fixE
  split
  · exact Nums.freezeD
  · exact Nums.sealD
theorem kindB_fixE (fz : Bool) (now : Ds) : Dc.kindB uvalid (fixE fz now) = true := by
  unfold fixE
  split
  · simp [Dc.kindB, Dc.formed_freeze]; simp [Dc.freezeD, Dc.d0, Dc.there_v0]
  · exact Dc.kindB_seal
set_option maxRecDepth 100000 in
set_option maxHeartbeats 4000000 in
theorem there_obj {n0 : Nat} {w : World} {hb : Nat} {ov : Value} {ob : Nat} {tp : Option Addr} {cap fuel deep : Int} {kd : Kd} {ext : Bool} {L : List (Ky × Ds)} (s : StX n0 w hb ov ob tp cap fuel deep kd ext L) : Calls Tryz.prog 78 #[.pointer (some ⟨hb, 0, none⟩), .int .i64 1] w fun e w' => e = .returned (.int .i64 0) ∧ w = w' := by
  go_enter Tryz.func78, Tryz.ntmps78
  go_wp2_with (go_at_call 71; refine (class_any s).mono ?_; rintro e wX ⟨rfl, rfl⟩)
  go_ret
  exact ⟨rfl, rfl⟩

set_option maxRecDepth 100000 in
set_option maxHeartbeats 4000000 in
theorem idef_out {n0 : Nat} {w : World} {hb : Nat} {ov : Value} {ob : Nat} {tp : Option Addr} {cap : Int} {ext : Bool} {L : List (Ky × Ds)} (s : StX n0 w hb ov ob tp cap 0 0 kO ext L) (k : Ky) (d : Ds) : Calls Tryz.prog 125 #[.pointer (some ⟨hb, 0, none⟩), .int .i64 1, .agg (kArr k), .agg (dArr d)] w fun e w' => Did (errV 1) n0 w hb ov ob cap 0 kO ext L e w' := by
  have cur := Bag.start s
  clear s
  go_enter Tryz.func125, Tryz.ntmps125
  go_wp2_with (first | ((with_reducible show wpList _ _ _ (⟨_, .box 40 _, _, _, _, _⟩ :: _) _ _); refine wpList_box_blk rfl 40 _ rfl (kArr k) rfl ?_; intro wc hB hL hs; replace cur := cur.push hL hB (Nat.le_refl _) rfl; clear hB hL hs) | ((with_reducible show wpList _ _ _ (⟨_, .box 43 _, _, _, _, _⟩ :: _) _ _); refine wpList_box_blk rfl 43 _ rfl (dArr d) rfl ?_; intro wd hB hL hs; replace cur := cur.push hL hB (Nat.le_refl _) rfl; clear hB hL hs) | ((with_reducible show wpList _ _ _ (⟨_, .load 40 (.tmp 6), _, _, _, _⟩ :: _) _ _); refine wpList_load_blk rfl 40 _ rfl _ rfl (cur.blk 1 rfl) Tryz.row40 Tryz.size40 ?_) | ((with_reducible show wpList _ _ _ (⟨_, .load 43 (.tmp 7), _, _, _, _⟩ :: _) _ _); refine wpList_load_blk rfl 43 _ rfl _ rfl (cur.blk 0 rfl) Tryz.row43 Tryz.size43 ?_) | (go_at_call 56; refine (edef_out cur.s k d).mono ?_; rintro e wY ⟨tp', rfl, s9, k9⟩; replace cur := cur.go s9 k9))
  go_ret
  exact ⟨tp', rfl, cur.s, cur.k⟩

set_option maxRecDepth 100000 in
set_option maxHeartbeats 4000000 in
theorem idef_in {n0 : Nat} {w : World} {hb : Nat} {ov : Value} {ob : Nat} {tp : Option Addr} {cap fuel : Int} {ext : Bool} {L : List (Ky × Ds)} (s : StX n0 w hb ov ob tp cap fuel 0 kO ext L) (hf : 0 < fuel ∧ fuel ≤ 9223372036854775807) (k : Ky) (d : Ds) (hg : kgood k = true) (hlen : L.length < 1000000) (hd : Nums d) (hkd : Dc.kindB uvalid d = true) (hn : LNums L) (hl : LOk L) (hdb : defB ext L k d = true) : Calls Tryz.prog 125 #[.pointer (some ⟨hb, 0, none⟩), .int .i64 1, .agg (kArr k), .agg (dArr d)] w fun e w' => Did (.nilIface) n0 w hb ov ob cap (fuel - 1) kO ext (defL ext L k d) e w' := by
  have HG := Lib.hid hg
  have HKD := Lib.hid hkd
  have HL := Lib.hid hlen
  have HF := Lib.hid hf
  have HB := Lib.hid hdb
  have HC : Hid (∀ W (s : StX n0 W hb ov ob tp cap fuel 0 kO ext L), Calls Tryz.prog 56 #[.pointer (some ⟨hb, 0, none⟩), .int .i64 1, .agg (kArr k), .agg (dArr d)] W fun e w' => Did (.tuple #[.bool true, .nilIface]) n0 W hb ov ob cap (fuel - 1) kO ext (defL ext L k d) e w') := Lib.hid fun W s => by
    have := edef_in s hf k d hg hlen hd hkd hn hl
    rw [hdb] at this
    exact this
  have cur := Bag.start s
  clear s hg hkd hlen hf hdb
  go_enter Tryz.func125, Tryz.ntmps125
  go_wp2_with (first | ((with_reducible show wpList _ _ _ (⟨_, .box 40 _, _, _, _, _⟩ :: _) _ _); refine wpList_box_blk rfl 40 _ rfl (kArr k) rfl ?_; intro wc hB hL hs; replace cur := cur.push hL hB (Nat.le_refl _) rfl; clear hB hL hs) | ((with_reducible show wpList _ _ _ (⟨_, .box 43 _, _, _, _, _⟩ :: _) _ _); refine wpList_box_blk rfl 43 _ rfl (dArr d) rfl ?_; intro wd hB hL hs; replace cur := cur.push hL hB (Nat.le_refl _) rfl; clear hB hL hs) | ((with_reducible show wpList _ _ _ (⟨_, .load 40 (.tmp 6), _, _, _, _⟩ :: _) _ _); refine wpList_load_blk rfl 40 _ rfl _ rfl (cur.blk 1 rfl) Tryz.row40 Tryz.size40 ?_) | ((with_reducible show wpList _ _ _ (⟨_, .load 43 (.tmp 7), _, _, _, _⟩ :: _) _ _); refine wpList_load_blk rfl 43 _ rfl _ rfl (cur.blk 0 rfl) Tryz.row43 Tryz.size43 ?_) | (go_at_call 56; refine (HC.out _ cur.s).mono ?_; rintro e wY ⟨tp', rfl, s9, k9⟩; replace cur := cur.go s9 k9))
  go_ret
  exact ⟨tp', rfl, cur.s, cur.k⟩

set_option maxRecDepth 100000 in
set_option maxHeartbeats 4000000 in
theorem cseal_any (k : Ky) (w : World) : Calls Tryz.prog 82 #[.agg (kArr k)] w fun e w' => e = .returned (.tuple #[.agg (dArr Dc.sealD), .bool true, .nilIface]) ∧ Below w.heap.size w w' := by
  go_enter Tryz.func82, Tryz.ntmps82
  go_wp2_with (first | ((with_reducible show wpList _ _ _ (⟨_, .box 40 _, _, _, _, _⟩ :: _) _ _); refine wpList_box_blk rfl 40 _ rfl (kArr k) rfl ?_; intro w1 hK hL hs; clear hs) | ((with_reducible show wpList _ _ _ (⟨_, .alloc 43, _, _, _, _⟩ :: _) _ _); refine wpList_alloc_blk rfl 43 rfl (dArr Dc.d0) zero43 ?_; intro w2 hD hL2 hs2; clear hs2; have hLL := more hL hL2) | ((with_reducible show wpList _ _ _ (⟨_, .store 43 _ _, _, _, _, _⟩ :: _) _ _); refine wpList_store_blk rfl 43 _ _ rfl _ (dArr Dc.sealD) _ 43 rfl rfl hD Tryz.size43 rfl (dCells_one _) ?_; intro w3 hD3 hO3))
  exact bodyPost_ret (results_cell_tmp2 Tryz.results82 rfl hD3 Tryz.row43 Tryz.size43) rfl ⟨rfl, hLL.trans (hO3.below _ hLL.size (by simp; have := hL.size; omega))⟩

end Go.Proofs.YtoalboilghgalaaGreatDoor

/- integrity: the closure of Freeze. -/
namespace Go.Proofs.YtoalboilghgalaaGreatDoor
open Go.RowKit
open Go.Proofs.Dc (V Ds Ky)
attribute [local go_sem] run_store_float

attribute [local go_sem] Oper.semAt_some
set_option maxRecDepth 100000 in
set_option maxHeartbeats 4000000 in
theorem cfreeze_out {n0 : Nat} {w : World} {hb : Nat} {ov : Value} {ob : Nat} {tp : Option Addr} {cap : Int} {ext : Bool} {L : List (Ky × Ds)} {bh bi : Nat} (k : Ky) (cur : Bag n0 w w hb ov ob tp cap 0 0 kO ext L [(bi, #[.int .i64 1], 3), (bh, #[.pointer (some ⟨hb, 0, none⟩)], 25)]) : Calls Tryz.prog 80 #[.agg (kArr k), .pointer (some ⟨bh, 0, none⟩), .pointer (some ⟨bi, 0, none⟩)] w fun e w' => Did (.tuple #[.agg (dArr Dc.d0), .bool false, errV 1]) n0 w hb ov ob cap 0 kO ext L e w' := by
  go_enter Tryz.func80, Tryz.ntmps80
  go_wp2_with (first | ((with_reducible show wpList _ _ _ (⟨_, .box 40 _, _, _, _, _⟩ :: _) _ _); refine wpList_box_blk rfl 40 _ rfl (kArr k) rfl ?_; intro wa hB hL hs; replace cur := cur.push hL hB (Nat.le_refl _) rfl; clear hB hL hs) | ((with_reducible show wpList _ _ _ (⟨some 4, .alloc 43, _, _, _, _⟩ :: _) _ _); refine wpList_alloc_blk rfl 43 rfl (dArr Dc.d0) zero43 ?_; intro wb hB hL hs; have hl4 := cur.k.size; replace cur := cur.push hL hB (Nat.le_refl _) rfl; clear hB hL hs) | ((with_reducible show wpList _ _ _ (⟨_, .load 25 (.tmp 1), _, _, _, _⟩ :: _) _ _); refine wpList_load1 (by rfl) 25 _ rfl _ 0 rfl (.pointer (some ⟨hb, 0, none⟩)) (Tryz.isAgg25 _) ((cur.blk 3 rfl).cell 0) ?_) | ((with_reducible show wpList _ _ _ (⟨_, .load 3 (.tmp 2), _, _, _, _⟩ :: _) _ _); refine wpList_load1 (by rfl) 3 _ rfl _ 0 rfl (.int .i64 1) (Tryz.isAgg3 _) ((cur.blk 2 rfl).cell 0) ?_) | ((with_reducible show wpList _ _ _ (⟨_, .load 40 (.tmp 3), _, _, _, _⟩ :: _) _ _); refine wpList_load_blk rfl 40 _ rfl _ rfl (cur.blk 1 rfl) Tryz.row40 Tryz.size40 ?_) | (go_at_call 66; refine (eget_out cur.s k).mono ?_; rintro e wY ⟨tp', rfl, s9, k9⟩; replace cur := cur.go s9 k9) | ((with_reducible show wpList _ _ _ (⟨some 7, .alloc 43, _, _, _, _⟩ :: _) _ _); refine wpList_alloc_blk rfl 43 rfl (dArr Dc.d0) zero43 ?_; intro wc hB hL hs; have hl7 := cur.k.size; replace cur := cur.push hL hB (Nat.le_refl _) rfl; clear hB hL hs) | ((with_reducible show wpList _ _ _ (⟨_, .store 43 (.tmp 7) _, _, _, _, _⟩ :: _) _ _); refine wpList_store_blk rfl 43 _ _ rfl _ (dArr Dc.d0) _ 43 rfl rfl (cur.blk 0 rfl) Tryz.size43 rfl (dCells_one _) ?_; intro we hB hO; replace cur := cur.set 0 rfl hO hB hl7; clear hB hO) | ((with_reducible show wpList _ _ _ (⟨_, .store 43 (.tmp 4) _, _, _, _, _⟩ :: _) _ _); refine wpList_store_blk rfl 43 _ _ rfl _ (dArr Dc.d0) _ 43 rfl rfl (cur.blk 1 rfl) Tryz.size43 rfl (dCells_one _) ?_; intro wf hB hO; replace cur := cur.set 1 rfl hO hB hl4; clear hB hO))
  exact bodyPost_ret (results_cell_tmp2 Tryz.results80 rfl (cur.blk 1 rfl) Tryz.row43 Tryz.size43) rfl ⟨tp', rfl, cur.s, cur.k⟩

set_option maxRecDepth 100000 in
set_option maxHeartbeats 4000000 in
theorem cfreeze_in {n0 : Nat} {w : World} {hb : Nat} {ov : Value} {ob : Nat} {tp : Option Addr} {cap fuel : Int} {ext : Bool} {L : List (Ky × Ds)} {bh bi : Nat} (hf : 0 < fuel ∧ fuel ≤ 9223372036854775807) (k : Ky) (now : Ds) (hnow : getL L k = some now) (hw : Dc.Whole uvalid now) (hnn : Nums now) (cur : Bag n0 w w hb ov ob tp cap fuel 0 kO ext L [(bi, #[.int .i64 1], 3), (bh, #[.pointer (some ⟨hb, 0, none⟩)], 25)]) : Calls Tryz.prog 80 #[.agg (kArr k), .pointer (some ⟨bh, 0, none⟩), .pointer (some ⟨bi, 0, none⟩)] w fun e w' => Did (.tuple #[.agg (dArr (fixE true now)), .bool true, .nilIface]) n0 w hb ov ob cap (fuel - 1) kO ext L e w' := by
  have hacc : (Dc.kindB uvalid now && Dc.kindN uvalid now == 2) = !Dc.there now.val := by
    rw [hw.kindB, hw.kindN]
    cases Dc.there now.val <;> rfl
  have HA : Hid (∀ W, Tabs W → Calls Tryz.prog 81 #[.agg (dArr now)] W fun e w' => e = .returned (.bool (!Dc.there now.val)) ∧ Below W.heap.size W w') := Lib.hid fun W hT => by
    have := accessor_any now W hT hnn
    rw [hacc] at this
    exact this
  have HE : Hid (∀ W (s : StX n0 W hb ov ob tp cap fuel 0 kO ext L), Calls Tryz.prog 66 #[.pointer (some ⟨hb, 0, none⟩), .int .i64 1, .agg (kArr k)] W fun e w' => Did (.tuple #[.agg (dArr now), .bool true, .nilIface]) n0 W hb ov ob cap (fuel - 1) kO ext L e w') := Lib.hid fun W s => by
    have := eget_in s hf k
    rw [hnow] at this
    exact this
  unfold fixE
  have HF := Lib.hid (And.intro hf hnow)
  clear hf hnow hacc
  obtain ⟨th, hth⟩ : ∃ th, Dc.there now.val = th := ⟨_, rfl⟩
  rw [hth] at HA ⊢
  have HTH := Lib.hid hth
  clear hth
  cases th
  · go_enter Tryz.func80, Tryz.ntmps80
    go_wp2_with (first | ((with_reducible show wpList _ _ _ (⟨_, .box 40 _, _, _, _, _⟩ :: _) _ _); refine wpList_box_blk rfl 40 _ rfl (kArr k) rfl ?_; intro wa hB hL hs; replace cur := cur.push hL hB (Nat.le_refl _) rfl; clear hB hL hs) | ((with_reducible show wpList _ _ _ (⟨some 4, .alloc 43, _, _, _, _⟩ :: _) _ _); refine wpList_alloc_blk rfl 43 rfl (dArr Dc.d0) zero43 ?_; intro wb hB hL hs; have hl4 := cur.k.size; replace cur := cur.push hL hB (Nat.le_refl _) rfl; clear hB hL hs) | ((with_reducible show wpList _ _ _ (⟨_, .load 25 (.tmp 1), _, _, _, _⟩ :: _) _ _); refine wpList_load1 (by rfl) 25 _ rfl _ 0 rfl (.pointer (some ⟨hb, 0, none⟩)) (Tryz.isAgg25 _) ((cur.blk 3 rfl).cell 0) ?_) | ((with_reducible show wpList _ _ _ (⟨_, .load 3 (.tmp 2), _, _, _, _⟩ :: _) _ _); refine wpList_load1 (by rfl) 3 _ rfl _ 0 rfl (.int .i64 1) (Tryz.isAgg3 _) ((cur.blk 2 rfl).cell 0) ?_) | ((with_reducible show wpList _ _ _ (⟨_, .load 40 (.tmp 3), _, _, _, _⟩ :: _) _ _); refine wpList_load_blk rfl 40 _ rfl _ rfl (cur.blk 1 rfl) Tryz.row40 Tryz.size40 ?_) | (go_at_call 66; refine (HE.out _ cur.s).mono ?_; rintro e wY ⟨tp', rfl, s9, k9⟩; replace cur := cur.go s9 k9) | ((with_reducible show wpList _ _ _ (⟨some 7, .alloc 43, _, _, _, _⟩ :: _) _ _); refine wpList_alloc_blk rfl 43 rfl (dArr Dc.d0) zero43 ?_; intro wc hB hL hs; have hl7 := cur.k.size; replace cur := cur.push hL hB (Nat.le_refl _) rfl; clear hB hL hs) | ((with_reducible show wpList _ _ _ (⟨_, .store 43 (.tmp 7) _, _, _, _, _⟩ :: _) _ _); refine wpList_store_blk rfl 43 _ _ rfl _ (dArr now) _ 43 rfl rfl (cur.blk 0 rfl) Tryz.size43 rfl (dCells_one _) ?_; intro we hB hO; replace cur := cur.set 0 rfl hO hB hl7; clear hB hO) | ((with_reducible show wpList _ _ _ (⟨some 10, .alloc 43, _, _, _, _⟩ :: _) _ _); refine wpList_alloc_blk rfl 43 rfl (dArr Dc.d0) zero43 ?_; intro wd hB hL hs; have hl10 := cur.k.size; replace cur := cur.push hL hB (Nat.le_refl _) rfl; clear hB hL hs) | ((with_reducible show wpList _ _ _ (⟨_, .store 43 (.tmp 10) _, _, _, _, _⟩ :: _) _ _); refine wpList_store_blk rfl 43 _ _ rfl _ (dArr Dc.sealD) _ 43 rfl rfl (cur.blk 0 rfl) Tryz.size43 rfl (dCells_one _) ?_; intro wf hB hO; replace cur := cur.set 0 rfl hO hB hl10; clear hB hO) | ((with_reducible show wpList _ _ _ (⟨_, .load 43 (.tmp 7), _, _, _, _⟩ :: _) _ _); refine wpList_load_blk rfl 43 _ rfl _ rfl (cur.blk 1 rfl) Tryz.row43 Tryz.size43 ?_) | (go_at_call 81; refine (HA.out _ cur.s.tabs).mono ?_; rintro e wZ ⟨rfl, hbZ⟩; replace cur := cur.next hbZ) | ((with_reducible show wpList _ _ _ (⟨_, .load 43 (.tmp 10), _, _, _, _⟩ :: _) _ _); refine wpList_load_blk rfl 43 _ rfl _ rfl (cur.blk 0 rfl) Tryz.row43 Tryz.size43 ?_) | ((with_reducible show wpList _ _ _ (⟨_, .store 43 (.tmp 4) _, _, _, _, _⟩ :: _) _ _); refine wpList_store_blk rfl 43 _ _ rfl _ (dArr Dc.sealD) _ 43 rfl rfl (cur.blk 2 rfl) Tryz.size43 rfl (dCells_one _) ?_; intro wg hB hO; replace cur := cur.set 2 rfl hO hB hl4; clear hB hO))
    exact bodyPost_ret (results_cell_tmp2 Tryz.results80 rfl (cur.blk 2 rfl) Tryz.row43 Tryz.size43) rfl ⟨tp', rfl, cur.s, cur.k⟩
  · go_enter Tryz.func80, Tryz.ntmps80
    go_wp2_with (first | ((with_reducible show wpList _ _ _ (⟨_, .box 40 _, _, _, _, _⟩ :: _) _ _); refine wpList_box_blk rfl 40 _ rfl (kArr k) rfl ?_; intro wa hB hL hs; replace cur := cur.push hL hB (Nat.le_refl _) rfl; clear hB hL hs) | ((with_reducible show wpList _ _ _ (⟨some 4, .alloc 43, _, _, _, _⟩ :: _) _ _); refine wpList_alloc_blk rfl 43 rfl (dArr Dc.d0) zero43 ?_; intro wb hB hL hs; have hl4 := cur.k.size; replace cur := cur.push hL hB (Nat.le_refl _) rfl; clear hB hL hs) | ((with_reducible show wpList _ _ _ (⟨_, .load 25 (.tmp 1), _, _, _, _⟩ :: _) _ _); refine wpList_load1 (by rfl) 25 _ rfl _ 0 rfl (.pointer (some ⟨hb, 0, none⟩)) (Tryz.isAgg25 _) ((cur.blk 3 rfl).cell 0) ?_) | ((with_reducible show wpList _ _ _ (⟨_, .load 3 (.tmp 2), _, _, _, _⟩ :: _) _ _); refine wpList_load1 (by rfl) 3 _ rfl _ 0 rfl (.int .i64 1) (Tryz.isAgg3 _) ((cur.blk 2 rfl).cell 0) ?_) | ((with_reducible show wpList _ _ _ (⟨_, .load 40 (.tmp 3), _, _, _, _⟩ :: _) _ _); refine wpList_load_blk rfl 40 _ rfl _ rfl (cur.blk 1 rfl) Tryz.row40 Tryz.size40 ?_) | (go_at_call 66; refine (HE.out _ cur.s).mono ?_; rintro e wY ⟨tp', rfl, s9, k9⟩; replace cur := cur.go s9 k9) | ((with_reducible show wpList _ _ _ (⟨some 7, .alloc 43, _, _, _, _⟩ :: _) _ _); refine wpList_alloc_blk rfl 43 rfl (dArr Dc.d0) zero43 ?_; intro wc hB hL hs; have hl7 := cur.k.size; replace cur := cur.push hL hB (Nat.le_refl _) rfl; clear hB hL hs) | ((with_reducible show wpList _ _ _ (⟨_, .store 43 (.tmp 7) _, _, _, _, _⟩ :: _) _ _); refine wpList_store_blk rfl 43 _ _ rfl _ (dArr now) _ 43 rfl rfl (cur.blk 0 rfl) Tryz.size43 rfl (dCells_one _) ?_; intro we hB hO; replace cur := cur.set 0 rfl hO hB hl7; clear hB hO) | ((with_reducible show wpList _ _ _ (⟨some 10, .alloc 43, _, _, _, _⟩ :: _) _ _); refine wpList_alloc_blk rfl 43 rfl (dArr Dc.d0) zero43 ?_; intro wd hB hL hs; have hl10 := cur.k.size; replace cur := cur.push hL hB (Nat.le_refl _) rfl; clear hB hL hs) | ((with_reducible show wpList _ _ _ (⟨_, .store 43 (.tmp 10) _, _, _, _, _⟩ :: _) _ _); refine wpList_store_blk rfl 43 _ _ rfl _ (dArr Dc.sealD) _ 43 rfl rfl (cur.blk 0 rfl) Tryz.size43 rfl (dCells_one _) ?_; intro wf hB hO; replace cur := cur.set 0 rfl hO hB hl10; clear hB hO) | ((with_reducible show wpList _ _ _ (⟨_, .load 43 (.tmp 7), _, _, _, _⟩ :: _) _ _); refine wpList_load_blk rfl 43 _ rfl _ rfl (cur.blk 1 rfl) Tryz.row43 Tryz.size43 ?_) | (go_at_call 81; refine (HA.out _ cur.s.tabs).mono ?_; rintro e wZ ⟨rfl, hbZ⟩; replace cur := cur.next hbZ; have hcT := (cur.blk 0 rfl).cellD; have hfT := (cur.blk 0 rfl).frozenD) | (((with_reducible show wpList _ _ _ (⟨_, .load 43 (.tmp 10), _, _, _, _⟩ :: _) _ _); have h9 := only_setCell (o := 15) (v := .int .i64 1) (cur.blk 0 rfl); replace cur := cur.set 0 rfl h9.2 (show Blk _ _ (dArr Dc.freezeD) 43 from h9.1) hl10); ((with_reducible show wpList _ _ _ (⟨_, .load 43 (.tmp 10), _, _, _, _⟩ :: _) _ _); refine wpList_load_blk rfl 43 _ rfl _ rfl (cur.blk 0 rfl) Tryz.row43 Tryz.size43 ?_)) | ((with_reducible show wpList _ _ _ (⟨_, .store 43 (.tmp 4) _, _, _, _, _⟩ :: _) _ _); refine wpList_store_blk rfl 43 _ _ rfl _ (dArr Dc.freezeD) _ 43 rfl rfl (cur.blk 2 rfl) Tryz.size43 rfl (dCells_one _) ?_; intro wg hB hO; replace cur := cur.set 2 rfl hO hB hl4; clear hB hO))
    exact bodyPost_ret (results_cell_tmp2 Tryz.results80 rfl (cur.blk 2 rfl) Tryz.row43 Tryz.size43) rfl ⟨tp', rfl, cur.s, cur.k⟩

end Go.Proofs.YtoalboilghgalaaGreatDoor

/- integrity: one property is fixed. -/
namespace Go.Proofs.YtoalboilghgalaaGreatDoor
open Go.RowKit
open Go.Proofs.Dc (V Ds Ky)
attribute [local go_sem] run_store_float

attribute [local go_sem] Oper.semAt_some
theorem Bag.drop {n0 : Nat} {w W : World} {hb : Nat} {ov : Value} {ob : Nat} {tp : Option Addr} {cap fuel deep : Int} {kd : Kd} {ext : Bool} {L : List (Ky × Ds)} {Bs : Bls} (h : Bag n0 w W hb ov ob tp cap fuel deep kd ext L Bs) (n : Nat) : Bag n0 w W hb ov ob tp cap fuel deep kd ext L (Bs.drop n) :=
  ⟨h.s, h.k, fun x hx => h.bl x (List.mem_of_mem_drop hx), h.nd.sublist ((List.drop_sublist n Bs).map _), h.n⟩
theorem Tryz.isAgg136 (w : World) : (isAgg 136).run Tryz.prog w = .ok false w := by kernel_rfl
theorem Tryz.size136 : (Tryz.prog.info? 136).map (·.size) = some 1 := by kernel_rfl
/-- all that a property's fixing asks -/
structure FixOk (L : List (Ky × Ds)) : Prop where
  len : L.length < 1000000
  nums : LNums L
  ok : LOk L
theorem FixOk.whole {L : List (Ky × Ds)} (h : FixOk L) {k : Ky} {now : Ds} (hg : getL L k = some now) : Dc.Whole uvalid ((getL L k).getD Dc.d0) := by rw [hg]; exact h.ok.get hg
set_option maxRecDepth 100000 in
set_option maxHeartbeats 4000000 in
theorem sfix_out {n0 : Nat} {w : World} {hb : Nat} {ov : Value} {ob : Nat} {tp : Option Addr} {cap : Int} {ext : Bool} {L : List (Ky × Ds)} {bp bh bi : Nat} (k : Ky) (cur : Bag n0 w w hb ov ob tp cap 0 0 kO ext L [(bi, #[.int .i64 1], 3), (bh, #[.pointer (some ⟨hb, 0, none⟩)], 25), (bp, #[.func (.func 82) #[] #[]], 136)]) : Calls Tryz.prog 124 #[.agg (kArr k), .pointer (some ⟨bp, 0, none⟩), .pointer (some ⟨bh, 0, none⟩), .pointer (some ⟨bi, 0, none⟩)] w fun e w' => Did (errV 1) n0 w hb ov ob cap 0 kO ext L e w' := by
  go_enter Tryz.func124, Tryz.ntmps124
  go_wp2_with (first | ((with_reducible show wpList _ _ _ (⟨_, .box 40 _, _, _, _, _⟩ :: _) _ _); refine wpList_box_blk rfl 40 _ rfl (kArr k) rfl ?_; intro wa hB hL hs; replace cur := cur.push hL hB (Nat.le_refl _) rfl; clear hB hL hs) | ((with_reducible show wpList _ _ _ (⟨_, .load 136 (.tmp 1), _, _, _, _⟩ :: _) _ _); refine wpList_load1 (by rfl) 136 _ rfl _ 0 rfl (.func (.func 82) #[] #[]) (Tryz.isAgg136 _) ((cur.blk 3 rfl).cell 0) ?_) | ((with_reducible show wpList _ _ _ (⟨_, .load 40 (.tmp 4), _, _, _, _⟩ :: _) _ _); refine wpList_load_blk rfl 40 _ rfl _ rfl (cur.blk 0 rfl) Tryz.row40 Tryz.size40 ?_) | (go_at_call 82; refine (cseal_any k _).mono ?_; rintro e wY ⟨rfl, hbY⟩; replace cur := cur.next hbY) | ((with_reducible show wpList _ _ _ (⟨some 6, .alloc 43, _, _, _, _⟩ :: _) _ _); refine wpList_alloc_blk rfl 43 rfl (dArr Dc.d0) zero43 ?_; intro wc hB hL hs; have hl6 := cur.k.size; replace cur := cur.push hL hB (Nat.le_refl _) rfl; clear hB hL hs) | ((with_reducible show wpList _ _ _ (⟨_, .store 43 (.tmp 6) _, _, _, _, _⟩ :: _) _ _); refine wpList_store_blk rfl 43 _ _ rfl _ (dArr Dc.sealD) _ 43 rfl rfl (cur.blk 0 rfl) Tryz.size43 rfl (dCells_one _) ?_; intro we hB hO; replace cur := cur.set 0 rfl hO hB hl6; clear hB hO) | ((with_reducible show wpList _ _ _ (⟨_, .load 25 (.tmp 2), _, _, _, _⟩ :: _) _ _); refine wpList_load1 (by rfl) 25 _ rfl _ 0 rfl (.pointer (some ⟨hb, 0, none⟩)) (Tryz.isAgg25 _) ((cur.blk 3 rfl).cell 0) ?_) | ((with_reducible show wpList _ _ _ (⟨_, .load 3 (.tmp 3), _, _, _, _⟩ :: _) _ _); refine wpList_load1 (by rfl) 3 _ rfl _ 0 rfl (.int .i64 1) (Tryz.isAgg3 _) ((cur.blk 2 rfl).cell 0) ?_) | ((with_reducible show wpList _ _ _ (⟨_, .load 40 (.tmp 4), _, _, _, _⟩ :: _) _ _); refine wpList_load_blk rfl 40 _ rfl _ rfl (cur.blk 1 rfl) Tryz.row40 Tryz.size40 ?_) | ((with_reducible show wpList _ _ _ (⟨_, .load 43 (.tmp 6), _, _, _, _⟩ :: _) _ _); refine wpList_load_blk rfl 43 _ rfl _ rfl (cur.blk 0 rfl) Tryz.row43 Tryz.size43 ?_) | (go_at_call 125; refine (idef_out cur.s k Dc.sealD).mono ?_; rintro e wZ ⟨tp', rfl, s9, k9⟩; replace cur := cur.go s9 k9))
  go_ret
  exact ⟨tp', rfl, cur.s, cur.k⟩

set_option maxRecDepth 100000 in
set_option maxHeartbeats 4000000 in
theorem sfix_in {n0 : Nat} {w : World} {hb : Nat} {ov : Value} {ob : Nat} {tp : Option Addr} {cap fuel : Int} {ext : Bool} {L : List (Ky × Ds)} {bp bh bi : Nat} (hf : 0 < fuel ∧ fuel ≤ 9223372036854775807) (k : Ky) (now : Ds) (hnow : getL L k = some now) (hx : FixOk L) (hg : kgood k = true) (cur : Bag n0 w w hb ov ob tp cap fuel 0 kO ext L [(bi, #[.int .i64 1], 3), (bh, #[.pointer (some ⟨hb, 0, none⟩)], 25), (bp, #[.func (.func 82) #[] #[]], 136)]) : Calls Tryz.prog 124 #[.agg (kArr k), .pointer (some ⟨bp, 0, none⟩), .pointer (some ⟨bh, 0, none⟩), .pointer (some ⟨bi, 0, none⟩)] w fun e w' => Did (.nilIface) n0 w hb ov ob cap (fuel - 1) kO ext (putL L k (fixD false now)) e w' := by
  have HD : Hid (∀ W (tp : Option Addr) (s : StX n0 W hb ov ob tp cap fuel 0 kO ext L), Calls Tryz.prog 125 #[.pointer (some ⟨hb, 0, none⟩), .int .i64 1, .agg (kArr k), .agg (dArr Dc.sealD)] W fun e w' => Did (.nilIface) n0 W hb ov ob cap (fuel - 1) kO ext (putL L k (fixD false now)) e w') := Lib.hid fun W tp s => by
    have hwh := hx.whole hnow
    have h1 := fix_defB false ext L k hwh
    have h2 := fix_defL false ext L k hwh
    have := idef_in s (by omega) k (fixE false ((getL L k).getD Dc.d0)) hg hx.len (Nums.fixE _ _) (kindB_fixE _ _) hx.nums hx.ok h1
    rw [h2, hnow] at this
    exact this
  have HX := Lib.hid (And.intro hx (And.intro hnow (And.intro hg hf)))
  clear hg
  clear hf hnow hx
  go_enter Tryz.func124, Tryz.ntmps124
  go_wp2_with (first | ((with_reducible show wpList _ _ _ (⟨_, .box 40 _, _, _, _, _⟩ :: _) _ _); refine wpList_box_blk rfl 40 _ rfl (kArr k) rfl ?_; intro wa hB hL hs; replace cur := cur.push hL hB (Nat.le_refl _) rfl; clear hB hL hs) | ((with_reducible show wpList _ _ _ (⟨_, .load 136 (.tmp 1), _, _, _, _⟩ :: _) _ _); refine wpList_load1 (by rfl) 136 _ rfl _ 0 rfl (.func (.func 82) #[] #[]) (Tryz.isAgg136 _) ((cur.blk 3 rfl).cell 0) ?_) | ((with_reducible show wpList _ _ _ (⟨_, .load 40 (.tmp 4), _, _, _, _⟩ :: _) _ _); refine wpList_load_blk rfl 40 _ rfl _ rfl (cur.blk 0 rfl) Tryz.row40 Tryz.size40 ?_) | (go_at_call 82; refine (cseal_any k _).mono ?_; rintro e wY ⟨rfl, hbY⟩; replace cur := cur.next hbY) | ((with_reducible show wpList _ _ _ (⟨some 6, .alloc 43, _, _, _, _⟩ :: _) _ _); refine wpList_alloc_blk rfl 43 rfl (dArr Dc.d0) zero43 ?_; intro wc hB hL hs; have hl6 := cur.k.size; replace cur := cur.push hL hB (Nat.le_refl _) rfl; clear hB hL hs) | ((with_reducible show wpList _ _ _ (⟨_, .store 43 (.tmp 6) _, _, _, _, _⟩ :: _) _ _); refine wpList_store_blk rfl 43 _ _ rfl _ (dArr Dc.sealD) _ 43 rfl rfl (cur.blk 0 rfl) Tryz.size43 rfl (dCells_one _) ?_; intro we hB hO; replace cur := cur.set 0 rfl hO hB hl6; clear hB hO) | ((with_reducible show wpList _ _ _ (⟨_, .load 25 (.tmp 2), _, _, _, _⟩ :: _) _ _); refine wpList_load1 (by rfl) 25 _ rfl _ 0 rfl (.pointer (some ⟨hb, 0, none⟩)) (Tryz.isAgg25 _) ((cur.blk 3 rfl).cell 0) ?_) | ((with_reducible show wpList _ _ _ (⟨_, .load 3 (.tmp 3), _, _, _, _⟩ :: _) _ _); refine wpList_load1 (by rfl) 3 _ rfl _ 0 rfl (.int .i64 1) (Tryz.isAgg3 _) ((cur.blk 2 rfl).cell 0) ?_) | ((with_reducible show wpList _ _ _ (⟨_, .load 40 (.tmp 4), _, _, _, _⟩ :: _) _ _); refine wpList_load_blk rfl 40 _ rfl _ rfl (cur.blk 1 rfl) Tryz.row40 Tryz.size40 ?_) | ((with_reducible show wpList _ _ _ (⟨_, .load 43 (.tmp 6), _, _, _, _⟩ :: _) _ _); refine wpList_load_blk rfl 43 _ rfl _ rfl (cur.blk 0 rfl) Tryz.row43 Tryz.size43 ?_) | (go_at_call 125; refine (HD.out _ _ cur.s).mono ?_; rintro e wZ ⟨tp', rfl, s9, k9⟩; replace cur := cur.go s9 k9))
  go_ret
  exact ⟨tp', rfl, cur.s, cur.k⟩

set_option maxRecDepth 100000 in
set_option maxHeartbeats 4000000 in
theorem ffix_out0 {n0 : Nat} {w : World} {hb : Nat} {ov : Value} {ob : Nat} {tp : Option Addr} {cap : Int} {ext : Bool} {L : List (Ky × Ds)} {bp bh bi ch ci : Nat} (k : Ky) (cur : Bag n0 w w hb ov ob tp cap 0 0 kO ext L [(bi, #[.int .i64 1], 3), (bh, #[.pointer (some ⟨hb, 0, none⟩)], 25), (bp, #[.func (.func 80) #[] #[.pointer (some ⟨ch, 0, none⟩), .pointer (some ⟨ci, 0, none⟩)]], 136), (ci, #[.int .i64 1], 3), (ch, #[.pointer (some ⟨hb, 0, none⟩)], 25)]) : Calls Tryz.prog 124 #[.agg (kArr k), .pointer (some ⟨bp, 0, none⟩), .pointer (some ⟨bh, 0, none⟩), .pointer (some ⟨bi, 0, none⟩)] w fun e w' => Did (errV 1) n0 w hb ov ob cap 0 kO ext L e w' := by
  go_enter Tryz.func124, Tryz.ntmps124
  go_wp2_with (first | ((with_reducible show wpList _ _ _ (⟨_, .box 40 _, _, _, _, _⟩ :: _) _ _); refine wpList_box_blk rfl 40 _ rfl (kArr k) rfl ?_; intro wa hB hL hs; replace cur := cur.push hL hB (Nat.le_refl _) rfl; clear hB hL hs) | ((with_reducible show wpList _ _ _ (⟨_, .load 136 (.tmp 1), _, _, _, _⟩ :: _) _ _); refine wpList_load1 (by rfl) 136 _ rfl _ 0 rfl (.func (.func 80) #[] #[.pointer (some ⟨ch, 0, none⟩), .pointer (some ⟨ci, 0, none⟩)]) (Tryz.isAgg136 _) ((cur.blk 3 rfl).cell 0) ?_) | ((with_reducible show wpList _ _ _ (⟨_, .load 40 (.tmp 4), _, _, _, _⟩ :: _) _ _); refine wpList_load_blk rfl 40 _ rfl _ rfl (cur.blk 0 rfl) Tryz.row40 Tryz.size40 ?_) | (go_at_call 80; refine (cfreeze_out k (cur.drop 4).again).mono ?_; rintro e wY ⟨tp', rfl, s9, k9⟩; replace cur := cur.go s9 k9) | ((with_reducible show wpList _ _ _ (⟨some 6, .alloc 43, _, _, _, _⟩ :: _) _ _); refine wpList_alloc_blk rfl 43 rfl (dArr Dc.d0) zero43 ?_; intro wc hB hL hs; have hl6 := cur.k.size; replace cur := cur.push hL hB (Nat.le_refl _) rfl; clear hB hL hs) | ((with_reducible show wpList _ _ _ (⟨_, .store 43 (.tmp 6) _, _, _, _, _⟩ :: _) _ _); refine wpList_store_blk rfl 43 _ _ rfl _ (dArr Dc.d0) _ 43 rfl rfl (cur.blk 0 rfl) Tryz.size43 rfl (dCells_one _) ?_; intro we hB hO; replace cur := cur.set 0 rfl hO hB hl6; clear hB hO))
  go_ret
  exact ⟨tp', rfl, cur.s, cur.k⟩

set_option maxRecDepth 100000 in
set_option maxHeartbeats 4000000 in
theorem ffix_out1 {n0 : Nat} {w : World} {hb : Nat} {ov : Value} {ob : Nat} {tp : Option Addr} {cap : Int} {ext : Bool} {L : List (Ky × Ds)} {bp bh bi ch ci : Nat} (k : Ky) (now : Ds) (hnow : getL L k = some now) (hx : FixOk L) (cur : Bag n0 w w hb ov ob tp cap 1 0 kO ext L [(bi, #[.int .i64 1], 3), (bh, #[.pointer (some ⟨hb, 0, none⟩)], 25), (bp, #[.func (.func 80) #[] #[.pointer (some ⟨ch, 0, none⟩), .pointer (some ⟨ci, 0, none⟩)]], 136), (ci, #[.int .i64 1], 3), (ch, #[.pointer (some ⟨hb, 0, none⟩)], 25)]) : Calls Tryz.prog 124 #[.agg (kArr k), .pointer (some ⟨bp, 0, none⟩), .pointer (some ⟨bh, 0, none⟩), .pointer (some ⟨bi, 0, none⟩)] w fun e w' => Did (errV 1) n0 w hb ov ob cap 0 kO ext L e w' := by
  have HX : Hid (Nums now ∧ getL L k = some now ∧ Dc.Whole uvalid now ∧ (0 < (1 : Int) ∧ (1 : Int) ≤ 9223372036854775807)) := Lib.hid ⟨by have := hx.nums.get k; rw [hnow] at this; exact this, hnow, hx.ok.get hnow, by omega⟩
  clear hnow hx
  go_enter Tryz.func124, Tryz.ntmps124
  go_wp2_with (first | ((with_reducible show wpList _ _ _ (⟨_, .box 40 _, _, _, _, _⟩ :: _) _ _); refine wpList_box_blk rfl 40 _ rfl (kArr k) rfl ?_; intro wa hB hL hs; replace cur := cur.push hL hB (Nat.le_refl _) rfl; clear hB hL hs) | ((with_reducible show wpList _ _ _ (⟨_, .load 136 (.tmp 1), _, _, _, _⟩ :: _) _ _); refine wpList_load1 (by rfl) 136 _ rfl _ 0 rfl (.func (.func 80) #[] #[.pointer (some ⟨ch, 0, none⟩), .pointer (some ⟨ci, 0, none⟩)]) (Tryz.isAgg136 _) ((cur.blk 3 rfl).cell 0) ?_) | ((with_reducible show wpList _ _ _ (⟨_, .load 40 (.tmp 4), _, _, _, _⟩ :: _) _ _); refine wpList_load_blk rfl 40 _ rfl _ rfl (cur.blk 0 rfl) Tryz.row40 Tryz.size40 ?_) | (go_at_call 80; refine (cfreeze_in HX.out.2.2.2 k now HX.out.2.1 HX.out.2.2.1 HX.out.1 (cur.drop 4).again).mono ?_; rintro e wY ⟨tp', rfl, s9, k9⟩; replace cur := cur.go s9 k9) | ((with_reducible show wpList _ _ _ (⟨some 6, .alloc 43, _, _, _, _⟩ :: _) _ _); refine wpList_alloc_blk rfl 43 rfl (dArr Dc.d0) zero43 ?_; intro wc hB hL hs; have hl6 := cur.k.size; replace cur := cur.push hL hB (Nat.le_refl _) rfl; clear hB hL hs) | ((with_reducible show wpList _ _ _ (⟨_, .store 43 (.tmp 6) _, _, _, _, _⟩ :: _) _ _); refine wpList_store_blk rfl 43 _ _ rfl _ (dArr (fixE true now)) _ 43 rfl rfl (cur.blk 0 rfl) Tryz.size43 rfl (dCells_one _) ?_; intro we hB hO; replace cur := cur.set 0 rfl hO hB hl6; clear hB hO) | ((with_reducible show wpList _ _ _ (⟨_, .load 25 (.tmp 2), _, _, _, _⟩ :: _) _ _); refine wpList_load1 (by rfl) 25 _ rfl _ 0 rfl (.pointer (some ⟨hb, 0, none⟩)) (Tryz.isAgg25 _) ((cur.blk 3 rfl).cell 0) ?_) | ((with_reducible show wpList _ _ _ (⟨_, .load 3 (.tmp 3), _, _, _, _⟩ :: _) _ _); refine wpList_load1 (by rfl) 3 _ rfl _ 0 rfl (.int .i64 1) (Tryz.isAgg3 _) ((cur.blk 2 rfl).cell 0) ?_) | ((with_reducible show wpList _ _ _ (⟨_, .load 40 (.tmp 4), _, _, _, _⟩ :: _) _ _); refine wpList_load_blk rfl 40 _ rfl _ rfl (cur.blk 1 rfl) Tryz.row40 Tryz.size40 ?_) | ((with_reducible show wpList _ _ _ (⟨_, .load 43 (.tmp 6), _, _, _, _⟩ :: _) _ _); refine wpList_load_blk rfl 43 _ rfl _ rfl (cur.blk 0 rfl) Tryz.row43 Tryz.size43 ?_) | (go_at_call 125; refine (idef_out cur.s k (fixE true now)).mono ?_; rintro e wZ ⟨tp2, rfl, s8, k8⟩; replace cur := cur.go s8 k8))
  go_ret
  exact ⟨tp2, rfl, cur.s, cur.k⟩

set_option maxRecDepth 100000 in
set_option maxHeartbeats 4000000 in
theorem ffix_in {n0 : Nat} {w : World} {hb : Nat} {ov : Value} {ob : Nat} {tp : Option Addr} {cap fuel : Int} {ext : Bool} {L : List (Ky × Ds)} {bp bh bi ch ci : Nat} (hf : 1 < fuel ∧ fuel ≤ 9223372036854775807) (k : Ky) (now : Ds) (hnow : getL L k = some now) (hx : FixOk L) (hg : kgood k = true) (cur : Bag n0 w w hb ov ob tp cap fuel 0 kO ext L [(bi, #[.int .i64 1], 3), (bh, #[.pointer (some ⟨hb, 0, none⟩)], 25), (bp, #[.func (.func 80) #[] #[.pointer (some ⟨ch, 0, none⟩), .pointer (some ⟨ci, 0, none⟩)]], 136), (ci, #[.int .i64 1], 3), (ch, #[.pointer (some ⟨hb, 0, none⟩)], 25)]) : Calls Tryz.prog 124 #[.agg (kArr k), .pointer (some ⟨bp, 0, none⟩), .pointer (some ⟨bh, 0, none⟩), .pointer (some ⟨bi, 0, none⟩)] w fun e w' => Did (.nilIface) n0 w hb ov ob cap (fuel - 1 - 1) kO ext (putL L k (fixD true now)) e w' := by
  have HX : Hid (Nums now ∧ getL L k = some now ∧ Dc.Whole uvalid now ∧ (0 < fuel ∧ fuel ≤ 9223372036854775807)) := Lib.hid ⟨by have := hx.nums.get k; rw [hnow] at this; exact this, hnow, hx.ok.get hnow, by omega⟩
  have HD : Hid (∀ W (tp : Option Addr) (s : StX n0 W hb ov ob tp cap (fuel - 1) 0 kO ext L), Calls Tryz.prog 125 #[.pointer (some ⟨hb, 0, none⟩), .int .i64 1, .agg (kArr k), .agg (dArr (fixE true now))] W fun e w' => Did (.nilIface) n0 W hb ov ob cap (fuel - 1 - 1) kO ext (putL L k (fixD true now)) e w') := Lib.hid fun W tp s => by
    have hwh := hx.whole hnow
    have h1 := fix_defB true ext L k hwh
    have h2 := fix_defL true ext L k hwh
    have := idef_in s (by omega) k (fixE true ((getL L k).getD Dc.d0)) hg hx.len (Nums.fixE _ _) (kindB_fixE _ _) hx.nums hx.ok h1
    rw [h2, hnow] at this
    exact this
  have HX2 := Lib.hid (And.intro hx (And.intro hnow (And.intro hg hf)))
  clear hg
  clear hf hnow hx
  go_enter Tryz.func124, Tryz.ntmps124
  go_wp2_with (first | ((with_reducible show wpList _ _ _ (⟨_, .box 40 _, _, _, _, _⟩ :: _) _ _); refine wpList_box_blk rfl 40 _ rfl (kArr k) rfl ?_; intro wa hB hL hs; replace cur := cur.push hL hB (Nat.le_refl _) rfl; clear hB hL hs) | ((with_reducible show wpList _ _ _ (⟨_, .load 136 (.tmp 1), _, _, _, _⟩ :: _) _ _); refine wpList_load1 (by rfl) 136 _ rfl _ 0 rfl (.func (.func 80) #[] #[.pointer (some ⟨ch, 0, none⟩), .pointer (some ⟨ci, 0, none⟩)]) (Tryz.isAgg136 _) ((cur.blk 3 rfl).cell 0) ?_) | ((with_reducible show wpList _ _ _ (⟨_, .load 40 (.tmp 4), _, _, _, _⟩ :: _) _ _); refine wpList_load_blk rfl 40 _ rfl _ rfl (cur.blk 0 rfl) Tryz.row40 Tryz.size40 ?_) | (go_at_call 80; refine (cfreeze_in HX.out.2.2.2 k now HX.out.2.1 HX.out.2.2.1 HX.out.1 (cur.drop 4).again).mono ?_; rintro e wY ⟨tp', rfl, s9, k9⟩; replace cur := cur.go s9 k9) | ((with_reducible show wpList _ _ _ (⟨some 6, .alloc 43, _, _, _, _⟩ :: _) _ _); refine wpList_alloc_blk rfl 43 rfl (dArr Dc.d0) zero43 ?_; intro wc hB hL hs; have hl6 := cur.k.size; replace cur := cur.push hL hB (Nat.le_refl _) rfl; clear hB hL hs) | ((with_reducible show wpList _ _ _ (⟨_, .store 43 (.tmp 6) _, _, _, _, _⟩ :: _) _ _); refine wpList_store_blk rfl 43 _ _ rfl _ (dArr (fixE true now)) _ 43 rfl rfl (cur.blk 0 rfl) Tryz.size43 rfl (dCells_one _) ?_; intro we hB hO; replace cur := cur.set 0 rfl hO hB hl6; clear hB hO) | ((with_reducible show wpList _ _ _ (⟨_, .load 25 (.tmp 2), _, _, _, _⟩ :: _) _ _); refine wpList_load1 (by rfl) 25 _ rfl _ 0 rfl (.pointer (some ⟨hb, 0, none⟩)) (Tryz.isAgg25 _) ((cur.blk 3 rfl).cell 0) ?_) | ((with_reducible show wpList _ _ _ (⟨_, .load 3 (.tmp 3), _, _, _, _⟩ :: _) _ _); refine wpList_load1 (by rfl) 3 _ rfl _ 0 rfl (.int .i64 1) (Tryz.isAgg3 _) ((cur.blk 2 rfl).cell 0) ?_) | ((with_reducible show wpList _ _ _ (⟨_, .load 40 (.tmp 4), _, _, _, _⟩ :: _) _ _); refine wpList_load_blk rfl 40 _ rfl _ rfl (cur.blk 1 rfl) Tryz.row40 Tryz.size40 ?_) | ((with_reducible show wpList _ _ _ (⟨_, .load 43 (.tmp 6), _, _, _, _⟩ :: _) _ _); refine wpList_load_blk rfl 43 _ rfl _ rfl (cur.blk 0 rfl) Tryz.row43 Tryz.size43 ?_) | (go_at_call 125; refine (HD.out _ _ cur.s).mono ?_; rintro e wZ ⟨tp2, rfl, s8, k8⟩; replace cur := cur.go s8 k8))
  go_ret
  exact ⟨tp2, rfl, cur.s, cur.k⟩


end Go.Proofs.YtoalboilghgalaaGreatDoor

/- integrity.each over the keys of an object, each fixed. -/
namespace Go.Proofs.YtoalboilghgalaaGreatDoor
open Go.RowKit
open Go.Proofs.Dc (V Ds Ky)
attribute [local go_sem] run_store_float

attribute [local go_sem] Oper.semAt_some
/-- how each ends -/
def EachPost (n0 : Nat) (w : World) (hb : Nat) (ov : Value) (ob : Nat) (cap : Int) (ext : Bool) (R : Bool × Nat × List (Ky × Ds)) (e : Ending) (w' : World) : Prop :=
  ∃ tp, e = .returned (if R.1 then .nilIface else errV 1) ∧ StX n0 w' hb ov ob tp cap R.2.1 0 kO ext R.2.2 ∧ Keeps n0 w w'
def cost (fz : Bool) : Nat := if fz then 2 else 1
/-- the keys are fixed one behind the other, as far as the fuel goes -/
def fixRun (fz : Bool) : List Ky → Nat → List (Ky × Ds) → Bool × Nat × List (Ky × Ds)
  | [], f, L => (true, f, L)
  | k :: r, f, L => if f < cost fz then (false, 0, L) else fixRun fz r (f - cost fz) (putL L k (fixD fz ((getL L k).getD Dc.d0)))
theorem fixD_whole (fz : Bool) {now : Ds} (h : Dc.Whole uvalid now) : Dc.Whole uvalid (fixD fz now) := by
  have h1 := fixE_apply fz true now h
  have h2 := Dc.apply_whole (ext := true) (.inr h) (kindB_fixE fz now) (by rw [h1])
  rw [h1] at h2
  exact h2
theorem fixD_nums (fz : Bool) {now : Ds} (h : Nums now) : Nums (fixD fz now) := by
  unfold fixD
  split
  · exact ⟨h.val, h.get, h.set⟩
  · exact ⟨h.val, h.get, h.set⟩
theorem FixOk.put {L : List (Ky × Ds)} (h : FixOk L) (fz : Bool) {k : Ky} {now : Ds} (hg : getL L k = some now) (hk : kgood k = true) : FixOk (putL L k (fixD fz now)) where
  len := by
    have := keys_put L k (fixD fz now) (by rw [hg]; simp)
    have h2 := congrArg List.length this
    rw [List.length_map, List.length_map] at h2
    rw [h2]; exact h.len
  nums := fun p hp => by
    rcases mem_put hp with hp | ⟨e, _⟩
    · exact h.nums p hp
    · rw [e]; exact fixD_nums fz (by have := h.nums.get k; rw [hg] at this; exact this)
  ok := h.ok.put hk (fixD_whole fz (h.ok.get hg))
set_option maxRecDepth 100000 in
set_option maxHeartbeats 4000000 in
theorem each_seal {n0 : Nat} {w : World} {hb : Nat} {ov : Value} {ob : Nat} {tp : Option Addr} {cap : Int} {F0 : Nat} {ext : Bool} {L : List (Ky × Ds)} {bp bh bi : Nat} (hF : 0 < F0 ∧ F0 ≤ 9223372036854775807) (hx : FixOk L) (cur : Bag n0 w w hb ov ob tp cap F0 0 kO ext L [(bi, #[.int .i64 1], 3), (bh, #[.pointer (some ⟨hb, 0, none⟩)], 25), (bp, #[.func (.func 82) #[] #[]], 136)]) (R : Bool × Nat × List (Ky × Ds)) (hR : fixRun false (sortK L) (F0 - 1) L = R) :
    Calls Tryz.prog 123 #[.pointer (some ⟨hb, 0, none⟩), .int .i64 1, .func (.func 124) #[] #[.pointer (some ⟨bp, 0, none⟩), .pointer (some ⟨bh, 0, none⟩), .pointer (some ⟨bi, 0, none⟩)]] w fun e w' => EachPost n0 w hb ov ob cap ext R e w' := by
  have HK : Hid (∀ W (tp : Option Addr) (s : StX n0 W hb ov ob tp cap F0 0 kO ext L), Calls Tryz.prog 63 #[.pointer (some ⟨hb, 0, none⟩), .int .i64 1] W fun e w' => ∃ v tp, e = .returned (.tuple #[v, .nilIface]) ∧ KeysAt w' 0 v (sortK L) ∧ StX n0 w' hb ov ob tp cap ((F0 - 1 : Nat) : Int) 0 kO ext L ∧ Keeps n0 W w') := Lib.hid fun W tp s => by
    have := ekeys_in s (by omega) hx.ok.keys
    rw [show ((F0 : Nat) : Int) - 1 = ((F0 - 1 : Nat) : Int) by omega] at this
    exact this
  obtain ⟨F1, hF1⟩ : ∃ F1, F0 - 1 = F1 := ⟨_, rfl⟩
  have hFb : F1 ≤ 9223372036854775807 := by omega
  rw [hF1] at hR HK
  obtain ⟨ks, hks⟩ : ∃ ks, sortK L = ks := ⟨_, rfl⟩
  rw [hks] at hR HK
  have hkg : ∀ k ∈ ks, kgood k = true ∧ k ∈ L.map (·.1) := fun k hk => by
    have h1 : k ∈ L.map (·.1) := by rw [← hks] at hk; exact (Srt.stable_perm _).mem_iff.1 hk
    obtain ⟨p, hp, rfl⟩ := List.mem_map.1 h1
    exact ⟨hx.ok.keys p hp, h1⟩
  have hkl : ks.length < 1000000 := by rw [← hks, sortK, (Srt.stable_perm _).length_eq, List.length_map]; exact hx.len
  obtain ⟨n, hn⟩ : ∃ n, ks.length = n := ⟨_, rfl⟩
  rw [hn] at hkl
  have HKG := Lib.hid hkg
  have HR0 := Lib.hid hR
  have HN := Lib.hid hn
  have HX0 := Lib.hid hx
  have HKS := Lib.hid hks
  clear hkg hR hn hx hks hF1 hF
  go_enter Tryz.func123, Tryz.ntmps123
  go_upto_region 4 with (go_at_call 63; refine (HK.out _ _ cur.s).mono ?_; rintro e wY ⟨v, tp', rfl, hkv, s9, k9⟩; replace cur := cur.go s9 k9)
  rcases hkv with ⟨hk0, rfl⟩ | ⟨g, c, r, rfl, _, hB⟩
  · subst hk0
    go_wp2
    refine wp_loop_rounds 1 ?_
    rw [rounds_succ]
    go_wp2
    go_ret
    exact ⟨tp', by rw [← HR0.out]; rfl, by rw [← HR0.out]; exact cur.s, cur.k⟩
  · rw [HN.out]
    go_wp2
    go_loopg [23] n (fun fu s23 wr => ∃ (i F : Nat) (tq : Option Addr) (M : List (Ky × Ds)), s23 = .int .i64 i ∧ i + fu = n ∧ F ≤ 9223372036854775807 ∧ fixRun false (ks.drop i) F M = R ∧ FixOk M ∧ M.map (·.1) = L.map (·.1) ∧ Bag n0 w wr hb ov ob tq cap F 0 kO ext M [(bi, #[.int .i64 1], 3), (bh, #[.pointer (some ⟨hb, 0, none⟩)], 25), (bp, #[.func (.func 82) #[] #[]], 136)] ∧ Blk wr g (kRow ks r) 40)
    case atStart => exact ⟨0, F1, tp', L, rfl, by omega, hFb, HR0.out, HX0.out, rfl, cur, hB⟩
    case round =>
      obtain ⟨i, F, tq, M, rfl, hi, hFb2, hrun, hx, hkeys, cur, hKr⟩ := hrel
      clear hB HK HX0 HR0 hFb s9 k9
      replace hx := Lib.hid hx
      replace hkeys := Lib.hid hkeys
      by_cases hlt : i < n
      · obtain ⟨x, hxi⟩ : ∃ x, ks[i]? = some x := ⟨_, List.getElem?_eq_getElem (by rw [HN.out]; exact hlt)⟩
        have hmem := HKG.out x (List.mem_of_getElem? hxi)
        have hgx : ∃ now, getL M x = some now := get_of_mem (by rw [hkeys.out]; exact hmem.2)
        obtain ⟨now, hnow⟩ := hgx
        have HX := Lib.hid (And.intro hxi (And.intro hnow hmem.1))
        have hdrop : ks.drop i = x :: ks.drop (i + 1) := by
          rw [List.drop_eq_getElem_cons (by rw [HN.out]; exact hlt)]
          congr 1
          rw [List.getElem?_eq_getElem (by rw [HN.out]; exact hlt)] at hxi
          exact Option.some.inj hxi
        rw [hdrop, fixRun] at hrun
        have e3 : (0 : Int) ≤ (i : Int) := by omega
        have e4 : (i : Int) < (n : Int) := by omega
        clear hdrop hnow hmem hxi
        by_cases hc : 1 ≤ F
        · rw [if_neg (show ¬ F < cost false by simp only [cost]; simp; omega), HX.out.2.1] at hrun
          obtain ⟨i2, hi2⟩ : ∃ i2, i + 1 = i2 := ⟨_, rfl⟩
          have e1 : (i : Int) + 1 = (i2 : Int) := by omega
          have e2 := wrap_nat i2 (by omega)
          obtain ⟨fu, rfl⟩ : ∃ fu, gk = fu + 1 := ⟨gk - 1, by omega⟩
          rw [hi2] at hrun
          have HRUN := Lib.hid hrun
          have HI3 := Lib.hid (And.intro (show i2 + fu = n by omega) hi2)
          obtain ⟨F2, hF2⟩ : ∃ F2, F - cost false = F2 := ⟨_, rfl⟩
          rw [hF2] at HRUN
          have hF2i : ((F : Int) - 1) = (F2 : Int) := by simp only [cost] at hF2; simp at hF2; omega
          have HF : Hid (0 < (F : Int) ∧ (F : Int) ≤ 9223372036854775807) := Lib.hid (by omega)
          have HF2 : Hid (((F : Int) - 1) = (F2 : Int) ∧ F2 ≤ 9223372036854775807) := Lib.hid ⟨hF2i, by omega⟩
          clear hrun hi2 hi hF2 hF2i
          go_wp2_with (first | ((with_reducible show wpList _ _ _ (⟨_, .load 40 (.tmp 25), _, _, _, _⟩ :: _) _ _); refine wpList_load_mid rfl 40 _ rfl g (i * 2) rfl [.string x.str, .int .i64 x.sym] _ (kRow_range hKr i x HX.out.1) Tryz.underlying40 rfl Tryz.size40 ?_) | ((with_reducible show wpList _ _ _ (⟨_, .alloc 40, _, _, _, _⟩ :: _) _ _); refine wpList_alloc_blk rfl 40 rfl (kArr ⟨⟨#[]⟩, 0⟩) zero40 ?_; intro wa hB hL hs; have hle := cur.k.size; have hKr1 := hKr.next hL; replace cur := cur.push hL hB (Nat.le_refl _) rfl; clear hB hL hs) | ((with_reducible show wpList _ _ _ (⟨_, .store 40 _ _, _, _, _, _⟩ :: _) _ _); refine wpList_store_blk rfl 40 _ _ rfl _ (kArr x) _ 40 rfl rfl (cur.blk 0 rfl) Tryz.size40 rfl (kArr_one _) ?_; intro wb hB hO; have hKr2 := hKr1.only hO (by have := hKr.lt; simp; omega); replace cur := cur.set 0 rfl hO hB hle; clear hB hO) | ((with_reducible show wpList _ _ _ (⟨_, .load 40 (.tmp 10), _, _, _, _⟩ :: _) _ _); refine wpList_load_blk rfl 40 _ rfl _ rfl (cur.blk 0 rfl) Tryz.row40 Tryz.size40 ?_) | (go_at_call 124; refine (sfix_in HF.out x now HX.out.2.1 hx.out HX.out.2.2 (cur.drop 1).again).mono ?_; rintro e wY ⟨tq2, rfl, s9, k9⟩; replace cur := (cur.go s9 k9).drop 1; have hKr3 := hKr2.keeps k9 rfl))
          go_roundg fu
          case measure => omega
          case rel => exact ⟨i2, F2, tq2, _, by go_num, HI3.out.1, HF2.out.2, HRUN.out, hx.out.put false HX.out.2.1 HX.out.2.2, (keys_put _ _ _ (by rw [HX.out.2.1]; simp)).trans hkeys.out, by rw [← HF2.out.1]; exact cur, hKr3⟩
        · clear hi
          obtain rfl : F = 0 := by omega
          have HR : Hid ((false, 0, M) = R) := Lib.hid (by rw [← hrun, if_pos (show 0 < cost false by decide)])
          clear hrun
          go_wp2_with (first | ((with_reducible show wpList _ _ _ (⟨_, .load 40 (.tmp 25), _, _, _, _⟩ :: _) _ _); refine wpList_load_mid rfl 40 _ rfl g (i * 2) rfl [.string x.str, .int .i64 x.sym] _ (kRow_range hKr i x HX.out.1) Tryz.underlying40 rfl Tryz.size40 ?_) | ((with_reducible show wpList _ _ _ (⟨_, .alloc 40, _, _, _, _⟩ :: _) _ _); refine wpList_alloc_blk rfl 40 rfl (kArr ⟨⟨#[]⟩, 0⟩) zero40 ?_; intro wa hB hL hs; have hle := cur.k.size; have hKr1 := hKr.next hL; replace cur := cur.push hL hB (Nat.le_refl _) rfl; clear hB hL hs) | ((with_reducible show wpList _ _ _ (⟨_, .store 40 _ _, _, _, _, _⟩ :: _) _ _); refine wpList_store_blk rfl 40 _ _ rfl _ (kArr x) _ 40 rfl rfl (cur.blk 0 rfl) Tryz.size40 rfl (kArr_one _) ?_; intro wb hB hO; have hKr2 := hKr1.only hO (by have := hKr.lt; simp; omega); replace cur := cur.set 0 rfl hO hB hle; clear hB hO) | ((with_reducible show wpList _ _ _ (⟨_, .load 40 (.tmp 10), _, _, _, _⟩ :: _) _ _); refine wpList_load_blk rfl 40 _ rfl _ rfl (cur.blk 0 rfl) Tryz.row40 Tryz.size40 ?_) | (go_at_call 124; refine (sfix_out x (cur.drop 1).again).mono ?_; rintro e wY ⟨tq, rfl, s9, k9⟩; replace cur := (cur.go s9 k9).drop 1))
          go_ret
          exact ⟨tq, by rw [← HR.out]; rfl, by rw [← HR.out]; exact cur.s, cur.k⟩
      · obtain rfl : i = n := by omega
        have hd : ks.drop i = [] := by rw [← HN.out]; exact List.drop_length
        rw [hd, fixRun] at hrun
        have HR := Lib.hid hrun
        have hlti : ¬ (i : Int) < (i : Int) := by omega
        clear hrun hd
        go_wp2
        go_ret
        exact ⟨tq, by rw [← HR.out]; rfl, by rw [← HR.out]; exact cur.s, cur.k⟩

set_option maxRecDepth 100000 in
set_option maxHeartbeats 4000000 in
theorem each_freeze {n0 : Nat} {w : World} {hb : Nat} {ov : Value} {ob : Nat} {tp : Option Addr} {cap : Int} {F0 : Nat} {ext : Bool} {L : List (Ky × Ds)} {bp bh bi ch ci : Nat} (hF : 0 < F0 ∧ F0 ≤ 9223372036854775807) (hx : FixOk L) (cur : Bag n0 w w hb ov ob tp cap F0 0 kO ext L [(bi, #[.int .i64 1], 3), (bh, #[.pointer (some ⟨hb, 0, none⟩)], 25), (bp, #[.func (.func 80) #[] #[.pointer (some ⟨ch, 0, none⟩), .pointer (some ⟨ci, 0, none⟩)]], 136), (ci, #[.int .i64 1], 3), (ch, #[.pointer (some ⟨hb, 0, none⟩)], 25)]) (R : Bool × Nat × List (Ky × Ds)) (hR : fixRun true (sortK L) (F0 - 1) L = R) :
    Calls Tryz.prog 123 #[.pointer (some ⟨hb, 0, none⟩), .int .i64 1, .func (.func 124) #[] #[.pointer (some ⟨bp, 0, none⟩), .pointer (some ⟨bh, 0, none⟩), .pointer (some ⟨bi, 0, none⟩)]] w fun e w' => EachPost n0 w hb ov ob cap ext R e w' := by
  have HK : Hid (∀ W (tp : Option Addr) (s : StX n0 W hb ov ob tp cap F0 0 kO ext L), Calls Tryz.prog 63 #[.pointer (some ⟨hb, 0, none⟩), .int .i64 1] W fun e w' => ∃ v tp, e = .returned (.tuple #[v, .nilIface]) ∧ KeysAt w' 0 v (sortK L) ∧ StX n0 w' hb ov ob tp cap ((F0 - 1 : Nat) : Int) 0 kO ext L ∧ Keeps n0 W w') := Lib.hid fun W tp s => by
    have := ekeys_in s (by omega) hx.ok.keys
    rw [show ((F0 : Nat) : Int) - 1 = ((F0 - 1 : Nat) : Int) by omega] at this
    exact this
  obtain ⟨F1, hF1⟩ : ∃ F1, F0 - 1 = F1 := ⟨_, rfl⟩
  have hFb : F1 ≤ 9223372036854775807 := by omega
  rw [hF1] at hR HK
  obtain ⟨ks, hks⟩ : ∃ ks, sortK L = ks := ⟨_, rfl⟩
  rw [hks] at hR HK
  have hkg : ∀ k ∈ ks, kgood k = true ∧ k ∈ L.map (·.1) := fun k hk => by
    have h1 : k ∈ L.map (·.1) := by rw [← hks] at hk; exact (Srt.stable_perm _).mem_iff.1 hk
    obtain ⟨p, hp, rfl⟩ := List.mem_map.1 h1
    exact ⟨hx.ok.keys p hp, h1⟩
  have hkl : ks.length < 1000000 := by rw [← hks, sortK, (Srt.stable_perm _).length_eq, List.length_map]; exact hx.len
  obtain ⟨n, hn⟩ : ∃ n, ks.length = n := ⟨_, rfl⟩
  rw [hn] at hkl
  have HKG := Lib.hid hkg
  have HR0 := Lib.hid hR
  have HN := Lib.hid hn
  have HX0 := Lib.hid hx
  have HKS := Lib.hid hks
  clear hkg hR hn hx hks hF1 hF
  go_enter Tryz.func123, Tryz.ntmps123
  go_upto_region 4 with (go_at_call 63; refine (HK.out _ _ cur.s).mono ?_; rintro e wY ⟨v, tp', rfl, hkv, s9, k9⟩; replace cur := cur.go s9 k9)
  rcases hkv with ⟨hk0, rfl⟩ | ⟨g, c, r, rfl, _, hB⟩
  · subst hk0
    go_wp2
    refine wp_loop_rounds 1 ?_
    rw [rounds_succ]
    go_wp2
    go_ret
    exact ⟨tp', by rw [← HR0.out]; rfl, by rw [← HR0.out]; exact cur.s, cur.k⟩
  · rw [HN.out]
    go_wp2
    go_loopg [23] n (fun fu s23 wr => ∃ (i F : Nat) (tq : Option Addr) (M : List (Ky × Ds)), s23 = .int .i64 i ∧ i + fu = n ∧ F ≤ 9223372036854775807 ∧ fixRun true (ks.drop i) F M = R ∧ FixOk M ∧ M.map (·.1) = L.map (·.1) ∧ Bag n0 w wr hb ov ob tq cap F 0 kO ext M [(bi, #[.int .i64 1], 3), (bh, #[.pointer (some ⟨hb, 0, none⟩)], 25), (bp, #[.func (.func 80) #[] #[.pointer (some ⟨ch, 0, none⟩), .pointer (some ⟨ci, 0, none⟩)]], 136), (ci, #[.int .i64 1], 3), (ch, #[.pointer (some ⟨hb, 0, none⟩)], 25)] ∧ Blk wr g (kRow ks r) 40)
    case atStart => exact ⟨0, F1, tp', L, rfl, by omega, hFb, HR0.out, HX0.out, rfl, cur, hB⟩
    case round =>
      obtain ⟨i, F, tq, M, rfl, hi, hFb2, hrun, hx, hkeys, cur, hKr⟩ := hrel
      clear hB HK HX0 HR0 hFb s9 k9
      replace hx := Lib.hid hx
      replace hkeys := Lib.hid hkeys
      by_cases hlt : i < n
      · obtain ⟨x, hxi⟩ : ∃ x, ks[i]? = some x := ⟨_, List.getElem?_eq_getElem (by rw [HN.out]; exact hlt)⟩
        have hmem := HKG.out x (List.mem_of_getElem? hxi)
        have hgx : ∃ now, getL M x = some now := get_of_mem (by rw [hkeys.out]; exact hmem.2)
        obtain ⟨now, hnow⟩ := hgx
        have HX := Lib.hid (And.intro hxi (And.intro hnow hmem.1))
        have hdrop : ks.drop i = x :: ks.drop (i + 1) := by
          rw [List.drop_eq_getElem_cons (by rw [HN.out]; exact hlt)]
          congr 1
          rw [List.getElem?_eq_getElem (by rw [HN.out]; exact hlt)] at hxi
          exact Option.some.inj hxi
        rw [hdrop, fixRun] at hrun
        have e3 : (0 : Int) ≤ (i : Int) := by omega
        have e4 : (i : Int) < (n : Int) := by omega
        clear hdrop hnow hmem hxi
        by_cases hc : 2 ≤ F
        · rw [if_neg (show ¬ F < cost true by simp only [cost]; simp; omega), HX.out.2.1] at hrun
          obtain ⟨i2, hi2⟩ : ∃ i2, i + 1 = i2 := ⟨_, rfl⟩
          have e1 : (i : Int) + 1 = (i2 : Int) := by omega
          have e2 := wrap_nat i2 (by omega)
          obtain ⟨fu, rfl⟩ : ∃ fu, gk = fu + 1 := ⟨gk - 1, by omega⟩
          rw [hi2] at hrun
          have HRUN := Lib.hid hrun
          have HI3 := Lib.hid (And.intro (show i2 + fu = n by omega) hi2)
          obtain ⟨F2, hF2⟩ : ∃ F2, F - cost true = F2 := ⟨_, rfl⟩
          rw [hF2] at HRUN
          have hF2i : ((F : Int) - 1 - 1) = (F2 : Int) := by simp only [cost] at hF2; simp at hF2; omega
          have HF : Hid (1 < (F : Int) ∧ (F : Int) ≤ 9223372036854775807) := Lib.hid (by omega)
          have HF2 : Hid (((F : Int) - 1 - 1) = (F2 : Int) ∧ F2 ≤ 9223372036854775807) := Lib.hid ⟨hF2i, by omega⟩
          clear hrun hi2 hi hF2 hF2i
          go_wp2_with (first | ((with_reducible show wpList _ _ _ (⟨_, .load 40 (.tmp 25), _, _, _, _⟩ :: _) _ _); refine wpList_load_mid rfl 40 _ rfl g (i * 2) rfl [.string x.str, .int .i64 x.sym] _ (kRow_range hKr i x HX.out.1) Tryz.underlying40 rfl Tryz.size40 ?_) | ((with_reducible show wpList _ _ _ (⟨_, .alloc 40, _, _, _, _⟩ :: _) _ _); refine wpList_alloc_blk rfl 40 rfl (kArr ⟨⟨#[]⟩, 0⟩) zero40 ?_; intro wa hB hL hs; have hle := cur.k.size; have hKr1 := hKr.next hL; replace cur := cur.push hL hB (Nat.le_refl _) rfl; clear hB hL hs) | ((with_reducible show wpList _ _ _ (⟨_, .store 40 _ _, _, _, _, _⟩ :: _) _ _); refine wpList_store_blk rfl 40 _ _ rfl _ (kArr x) _ 40 rfl rfl (cur.blk 0 rfl) Tryz.size40 rfl (kArr_one _) ?_; intro wb hB hO; have hKr2 := hKr1.only hO (by have := hKr.lt; simp; omega); replace cur := cur.set 0 rfl hO hB hle; clear hB hO) | ((with_reducible show wpList _ _ _ (⟨_, .load 40 (.tmp 10), _, _, _, _⟩ :: _) _ _); refine wpList_load_blk rfl 40 _ rfl _ rfl (cur.blk 0 rfl) Tryz.row40 Tryz.size40 ?_) | (go_at_call 124; refine (ffix_in HF.out x now HX.out.2.1 hx.out HX.out.2.2 (cur.drop 1).again).mono ?_; rintro e wY ⟨tq2, rfl, s9, k9⟩; replace cur := (cur.go s9 k9).drop 1; have hKr3 := hKr2.keeps k9 rfl))
          go_roundg fu
          case measure => omega
          case rel => exact ⟨i2, F2, tq2, _, by go_num, HI3.out.1, HF2.out.2, HRUN.out, hx.out.put true HX.out.2.1 HX.out.2.2, (keys_put _ _ _ (by rw [HX.out.2.1]; simp)).trans hkeys.out, by rw [← HF2.out.1]; exact cur, hKr3⟩
        · clear hi
          by_cases hF0 : F = 0
          · obtain rfl := hF0
            have HR : Hid ((false, 0, M) = R) := Lib.hid (by rw [← hrun, if_pos (show 0 < cost true by decide)])
            clear hrun
            go_wp2_with (first | ((with_reducible show wpList _ _ _ (⟨_, .load 40 (.tmp 25), _, _, _, _⟩ :: _) _ _); refine wpList_load_mid rfl 40 _ rfl g (i * 2) rfl [.string x.str, .int .i64 x.sym] _ (kRow_range hKr i x HX.out.1) Tryz.underlying40 rfl Tryz.size40 ?_) | ((with_reducible show wpList _ _ _ (⟨_, .alloc 40, _, _, _, _⟩ :: _) _ _); refine wpList_alloc_blk rfl 40 rfl (kArr ⟨⟨#[]⟩, 0⟩) zero40 ?_; intro wa hB hL hs; have hle := cur.k.size; have hKr1 := hKr.next hL; replace cur := cur.push hL hB (Nat.le_refl _) rfl; clear hB hL hs) | ((with_reducible show wpList _ _ _ (⟨_, .store 40 _ _, _, _, _, _⟩ :: _) _ _); refine wpList_store_blk rfl 40 _ _ rfl _ (kArr x) _ 40 rfl rfl (cur.blk 0 rfl) Tryz.size40 rfl (kArr_one _) ?_; intro wb hB hO; have hKr2 := hKr1.only hO (by have := hKr.lt; simp; omega); replace cur := cur.set 0 rfl hO hB hle; clear hB hO) | ((with_reducible show wpList _ _ _ (⟨_, .load 40 (.tmp 10), _, _, _, _⟩ :: _) _ _); refine wpList_load_blk rfl 40 _ rfl _ rfl (cur.blk 0 rfl) Tryz.row40 Tryz.size40 ?_) | (go_at_call 124; refine (ffix_out0 x (cur.drop 1).again).mono ?_; rintro e wY ⟨tq, rfl, s9, k9⟩; replace cur := (cur.go s9 k9).drop 1))
            go_ret
            exact ⟨tq, by rw [← HR.out]; rfl, by rw [← HR.out]; exact cur.s, cur.k⟩
          · obtain rfl : F = 1 := by omega
            have HR : Hid ((false, 0, M) = R) := Lib.hid (by rw [← hrun, if_pos (show 1 < cost true by decide)])
            clear hrun
            go_wp2_with (first | ((with_reducible show wpList _ _ _ (⟨_, .load 40 (.tmp 25), _, _, _, _⟩ :: _) _ _); refine wpList_load_mid rfl 40 _ rfl g (i * 2) rfl [.string x.str, .int .i64 x.sym] _ (kRow_range hKr i x HX.out.1) Tryz.underlying40 rfl Tryz.size40 ?_) | ((with_reducible show wpList _ _ _ (⟨_, .alloc 40, _, _, _, _⟩ :: _) _ _); refine wpList_alloc_blk rfl 40 rfl (kArr ⟨⟨#[]⟩, 0⟩) zero40 ?_; intro wa hB hL hs; have hle := cur.k.size; have hKr1 := hKr.next hL; replace cur := cur.push hL hB (Nat.le_refl _) rfl; clear hB hL hs) | ((with_reducible show wpList _ _ _ (⟨_, .store 40 _ _, _, _, _, _⟩ :: _) _ _); refine wpList_store_blk rfl 40 _ _ rfl _ (kArr x) _ 40 rfl rfl (cur.blk 0 rfl) Tryz.size40 rfl (kArr_one _) ?_; intro wb hB hO; have hKr2 := hKr1.only hO (by have := hKr.lt; simp; omega); replace cur := cur.set 0 rfl hO hB hle; clear hB hO) | ((with_reducible show wpList _ _ _ (⟨_, .load 40 (.tmp 10), _, _, _, _⟩ :: _) _ _); refine wpList_load_blk rfl 40 _ rfl _ rfl (cur.blk 0 rfl) Tryz.row40 Tryz.size40 ?_) | (go_at_call 124; refine (ffix_out1 x now HX.out.2.1 hx.out (cur.drop 1).again).mono ?_; rintro e wY ⟨tq, rfl, s9, k9⟩; replace cur := (cur.go s9 k9).drop 1))
            go_ret
            exact ⟨tq, by rw [← HR.out]; rfl, by rw [← HR.out]; exact cur.s, cur.k⟩
      · obtain rfl : i = n := by omega
        have hd : ks.drop i = [] := by rw [← HN.out]; exact List.drop_length
        rw [hd, fixRun] at hrun
        have HR := Lib.hid hrun
        have hlti : ¬ (i : Int) < (i : Int) := by omega
        clear hrun hd
        go_wp2
        go_ret
        exact ⟨tq, by rw [← HR.out]; rfl, by rw [← HR.out]; exact cur.s, cur.k⟩

end Go.Proofs.YtoalboilghgalaaGreatDoor

/- integrity.fix, Seal, Freeze. -/
namespace Go.Proofs.YtoalboilghgalaaGreatDoor
open Go.RowKit
open Go.Proofs.Dc (V Ds Ky)
attribute [local go_sem] run_store_float

attribute [local go_sem] Oper.semAt_some
theorem Bag.perm {n0 : Nat} {w W : World} {hb : Nat} {ov : Value} {ob : Nat} {tp : Option Addr} {cap fuel deep : Int} {kd : Kd} {ext : Bool} {L : List (Ky × Ds)} {Bs Bs' : Bls} (h : Bag n0 w W hb ov ob tp cap fuel deep kd ext L Bs) (hp : Bs'.Perm Bs) : Bag n0 w W hb ov ob tp cap fuel deep kd ext L Bs' :=
  ⟨h.s, h.k, fun x hx => h.bl x (hp.mem_iff.1 hx), ((hp.map (·.1)).nodup_iff).2 h.nd, h.n⟩
/-- fixing, from the first call on -/
def fixAt (fz : Bool) (F : Nat) (ext : Bool) (L : List (Ky × Ds)) : Bool × Nat × Bool × List (Ky × Ds) :=
  if F = 0 then (false, 0, ext, L) else if F = 1 then (false, 0, false, L) else
    ((fixRun fz (sortK L) (F - 2) L).1, (fixRun fz (sortK L) (F - 2) L).2.1, false, (fixRun fz (sortK L) (F - 2) L).2.2)
def FixPost (n0 : Nat) (w : World) (hb : Nat) (ov : Value) (ob : Nat) (cap : Int) (R : Bool × Nat × Bool × List (Ky × Ds)) (e : Ending) (w' : World) : Prop :=
  ∃ tp, e = .returned (.tuple #[.bool R.1, if R.1 then .nilIface else errV 1]) ∧ StX n0 w' hb ov ob tp cap R.2.1 0 kO R.2.2.1 R.2.2.2 ∧ Keeps n0 w w'
set_option maxRecDepth 100000 in
set_option maxHeartbeats 4000000 in
theorem each_out {n0 : Nat} {w : World} {hb : Nat} {ov : Value} {ob : Nat} {tp : Option Addr} {cap : Int} {ext : Bool} {L : List (Ky × Ds)} (s : StX n0 w hb ov ob tp cap 0 0 kO ext L) (fv : Value) : Calls Tryz.prog 123 #[.pointer (some ⟨hb, 0, none⟩), .int .i64 1, fv] w fun e w' => Did (errV 1) n0 w hb ov ob cap 0 kO ext L e w' := by
  have cur := Bag.start s
  clear s
  go_enter Tryz.func123, Tryz.ntmps123
  go_wp2_with (go_at_call 63; refine (ekeys_out cur.s).mono ?_; rintro e wY ⟨tp', rfl, s9, k9⟩; replace cur := cur.go s9 k9)
  go_ret
  exact ⟨tp', rfl, cur.s, cur.k⟩

set_option maxRecDepth 100000 in
set_option maxHeartbeats 4000000 in
theorem fix_seal {n0 : Nat} {w : World} {hb : Nat} {ov : Value} {ob : Nat} {tp : Option Addr} {cap : Int} {F : Nat} {ext : Bool} {L : List (Ky × Ds)} (hF : F ≤ 9223372036854775807) (hx : FixOk L) (cur : Bag n0 w w hb ov ob tp cap F 0 kO ext L []) :
    Calls Tryz.prog 79 #[.pointer (some ⟨hb, 0, none⟩), .int .i64 1, .func (.func 82) #[] #[]] w fun e w' => FixPost n0 w hb ov ob cap (fixAt false F ext L) e w' := by
  unfold fixAt
  by_cases h0 : F = 0
  · subst h0
    rw [if_pos rfl]
    go_enter Tryz.func79, Tryz.ntmps79
    go_wp2_with (first | ((with_reducible show wpList _ _ _ (⟨_, .box 25 _, _, _, _, _⟩ :: _) _ _); refine wpList_box1 rfl 25 _ rfl (.pointer (some ⟨hb, 0, none⟩)) rfl rfl ?_; intro wa hB hL hs; replace cur := cur.push hL hB (Nat.le_refl _) rfl; clear hB hL hs) | ((with_reducible show wpList _ _ _ (⟨_, .box 3 _, _, _, _, _⟩ :: _) _ _); refine wpList_box1 rfl 3 _ rfl (.int .i64 1) rfl rfl ?_; intro wb hB hL hs; replace cur := cur.push hL hB (Nat.le_refl _) rfl; clear hB hL hs) | ((with_reducible show wpList _ _ _ (⟨_, .box 136 _, _, _, _, _⟩ :: _) _ _); refine wpList_box1 rfl 136 _ rfl (.func (.func 82) #[] #[]) rfl rfl ?_; intro wc hB hL hs; replace cur := cur.push hL hB (Nat.le_refl _) rfl; clear hB hL hs) | ((with_reducible show wpList _ _ _ (⟨_, .load 25 (.tmp 3), _, _, _, _⟩ :: _) _ _); refine wpList_load1 (by rfl) 25 _ rfl _ 0 rfl (.pointer (some ⟨hb, 0, none⟩)) (Tryz.isAgg25 _) ((cur.blk 2 rfl).cell 0) ?_) | ((with_reducible show wpList _ _ _ (⟨_, .load 3 (.tmp 4), _, _, _, _⟩ :: _) _ _); refine wpList_load1 (by rfl) 3 _ rfl _ 0 rfl (.int .i64 1) (Tryz.isAgg3 _) ((cur.blk 1 rfl).cell 0) ?_) | (go_at_call 61; refine (eprev_out cur.s).mono ?_; rintro e wY ⟨tp', rfl, s9, k9⟩; replace cur := cur.go s9 k9))
    go_ret2
    exact ⟨tp', rfl, cur.s, cur.k⟩
  · rw [if_neg h0]
    obtain ⟨F1, hF1⟩ : ∃ F1, F = F1 + 1 := ⟨F - 1, by omega⟩
    have HP : Hid (∀ W (tp : Option Addr) (s : StX n0 W hb ov ob tp cap F 0 kO ext L), Calls Tryz.prog 61 #[.pointer (some ⟨hb, 0, none⟩), .int .i64 1] W fun e w' => Did (.tuple #[.bool true, .nilIface]) n0 W hb ov ob cap (F1 : Int) kO false L e w') := Lib.hid fun W tp s => by
      have := eprev_in s (by omega)
      rw [show ((F : Nat) : Int) - 1 = (F1 : Int) by omega] at this
      exact this
    have HX := Lib.hid hx
    clear hx
    by_cases h1 : F = 1
    · rw [if_pos h1]
      obtain rfl : F1 = 0 := by omega
      clear h0 h1 hF1
      go_enter Tryz.func79, Tryz.ntmps79
      go_wp2_with (first | ((with_reducible show wpList _ _ _ (⟨_, .box 25 _, _, _, _, _⟩ :: _) _ _); refine wpList_box1 rfl 25 _ rfl (.pointer (some ⟨hb, 0, none⟩)) rfl rfl ?_; intro wa hB hL hs; replace cur := cur.push hL hB (Nat.le_refl _) rfl; clear hB hL hs) | ((with_reducible show wpList _ _ _ (⟨_, .box 3 _, _, _, _, _⟩ :: _) _ _); refine wpList_box1 rfl 3 _ rfl (.int .i64 1) rfl rfl ?_; intro wb hB hL hs; replace cur := cur.push hL hB (Nat.le_refl _) rfl; clear hB hL hs) | ((with_reducible show wpList _ _ _ (⟨_, .box 136 _, _, _, _, _⟩ :: _) _ _); refine wpList_box1 rfl 136 _ rfl (.func (.func 82) #[] #[]) rfl rfl ?_; intro wc hB hL hs; replace cur := cur.push hL hB (Nat.le_refl _) rfl; clear hB hL hs) | ((with_reducible show wpList _ _ _ (⟨_, .load 25 (.tmp 3), _, _, _, _⟩ :: _) _ _); refine wpList_load1 (by rfl) 25 _ rfl _ 0 rfl (.pointer (some ⟨hb, 0, none⟩)) (Tryz.isAgg25 _) ((cur.blk 2 rfl).cell 0) ?_) | ((with_reducible show wpList _ _ _ (⟨_, .load 3 (.tmp 4), _, _, _, _⟩ :: _) _ _); refine wpList_load1 (by rfl) 3 _ rfl _ 0 rfl (.int .i64 1) (Tryz.isAgg3 _) ((cur.blk 1 rfl).cell 0) ?_) | (go_at_call 61; refine (HP.out _ _ cur.s).mono ?_; rintro e wY ⟨tp', rfl, s9, k9⟩; replace cur := cur.go s9 k9) | (go_at_call 123; refine (each_out cur.s _).mono ?_; rintro e wZ ⟨tp2, rfl, s8, k8⟩; replace cur := cur.go s8 k8))
      go_ret2
      exact ⟨tp2, rfl, cur.s, cur.k⟩
    · rw [if_neg h1]
      obtain ⟨R, hR⟩ : ∃ R, fixRun false (sortK L) (F - 2) L = R := ⟨_, rfl⟩
      rw [hR]
      have HR : Hid (fixRun false (sortK L) (F1 - 1) L = R) := Lib.hid (by rw [← hR, hF1]; rfl)
      have HF : Hid (0 < F1 ∧ F1 ≤ 9223372036854775807) := Lib.hid (by omega)
      obtain ⟨b, f, M⟩ := R
      clear h0 h1 hF1 hR
      cases b
      · go_enter Tryz.func79, Tryz.ntmps79
        go_wp2_with (first | ((with_reducible show wpList _ _ _ (⟨_, .box 25 _, _, _, _, _⟩ :: _) _ _); refine wpList_box1 rfl 25 _ rfl (.pointer (some ⟨hb, 0, none⟩)) rfl rfl ?_; intro wa hB hL hs; replace cur := cur.push hL hB (Nat.le_refl _) rfl; clear hB hL hs) | ((with_reducible show wpList _ _ _ (⟨_, .box 3 _, _, _, _, _⟩ :: _) _ _); refine wpList_box1 rfl 3 _ rfl (.int .i64 1) rfl rfl ?_; intro wb hB hL hs; replace cur := cur.push hL hB (Nat.le_refl _) rfl; clear hB hL hs) | ((with_reducible show wpList _ _ _ (⟨_, .box 136 _, _, _, _, _⟩ :: _) _ _); refine wpList_box1 rfl 136 _ rfl (.func (.func 82) #[] #[]) rfl rfl ?_; intro wc hB hL hs; replace cur := cur.push hL hB (Nat.le_refl _) rfl; clear hB hL hs) | ((with_reducible show wpList _ _ _ (⟨_, .load 25 (.tmp 3), _, _, _, _⟩ :: _) _ _); refine wpList_load1 (by rfl) 25 _ rfl _ 0 rfl (.pointer (some ⟨hb, 0, none⟩)) (Tryz.isAgg25 _) ((cur.blk 2 rfl).cell 0) ?_) | ((with_reducible show wpList _ _ _ (⟨_, .load 3 (.tmp 4), _, _, _, _⟩ :: _) _ _); refine wpList_load1 (by rfl) 3 _ rfl _ 0 rfl (.int .i64 1) (Tryz.isAgg3 _) ((cur.blk 1 rfl).cell 0) ?_) | (go_at_call 61; refine (HP.out _ _ cur.s).mono ?_; rintro e wY ⟨tp', rfl, s9, k9⟩; replace cur := cur.go s9 k9) | (go_at_call 123; refine (each_seal HF.out HX.out (cur.perm (List.perm_append_comm (l₁ := [_, _]) (l₂ := [_]))).again _ HR.out).mono ?_; rintro e wZ ⟨tp2, rfl, s8, k8⟩; replace cur := cur.go s8 k8))
        go_ret2
        exact ⟨tp2, rfl, cur.s, cur.k⟩
      · go_enter Tryz.func79, Tryz.ntmps79
        go_wp2_with (first | ((with_reducible show wpList _ _ _ (⟨_, .box 25 _, _, _, _, _⟩ :: _) _ _); refine wpList_box1 rfl 25 _ rfl (.pointer (some ⟨hb, 0, none⟩)) rfl rfl ?_; intro wa hB hL hs; replace cur := cur.push hL hB (Nat.le_refl _) rfl; clear hB hL hs) | ((with_reducible show wpList _ _ _ (⟨_, .box 3 _, _, _, _, _⟩ :: _) _ _); refine wpList_box1 rfl 3 _ rfl (.int .i64 1) rfl rfl ?_; intro wb hB hL hs; replace cur := cur.push hL hB (Nat.le_refl _) rfl; clear hB hL hs) | ((with_reducible show wpList _ _ _ (⟨_, .box 136 _, _, _, _, _⟩ :: _) _ _); refine wpList_box1 rfl 136 _ rfl (.func (.func 82) #[] #[]) rfl rfl ?_; intro wc hB hL hs; replace cur := cur.push hL hB (Nat.le_refl _) rfl; clear hB hL hs) | ((with_reducible show wpList _ _ _ (⟨_, .load 25 (.tmp 3), _, _, _, _⟩ :: _) _ _); refine wpList_load1 (by rfl) 25 _ rfl _ 0 rfl (.pointer (some ⟨hb, 0, none⟩)) (Tryz.isAgg25 _) ((cur.blk 2 rfl).cell 0) ?_) | ((with_reducible show wpList _ _ _ (⟨_, .load 3 (.tmp 4), _, _, _, _⟩ :: _) _ _); refine wpList_load1 (by rfl) 3 _ rfl _ 0 rfl (.int .i64 1) (Tryz.isAgg3 _) ((cur.blk 1 rfl).cell 0) ?_) | (go_at_call 61; refine (HP.out _ _ cur.s).mono ?_; rintro e wY ⟨tp', rfl, s9, k9⟩; replace cur := cur.go s9 k9) | (go_at_call 123; refine (each_seal HF.out HX.out (cur.perm (List.perm_append_comm (l₁ := [_, _]) (l₂ := [_]))).again _ HR.out).mono ?_; rintro e wZ ⟨tp2, rfl, s8, k8⟩; replace cur := cur.go s8 k8))
        go_ret2
        exact ⟨tp2, rfl, cur.s, cur.k⟩

set_option maxRecDepth 100000 in
set_option maxHeartbeats 4000000 in
theorem fix_freeze {n0 : Nat} {w : World} {hb : Nat} {ov : Value} {ob : Nat} {tp : Option Addr} {cap : Int} {F : Nat} {ext : Bool} {L : List (Ky × Ds)} {ch ci : Nat} (hF : F ≤ 9223372036854775807) (hx : FixOk L) (cur : Bag n0 w w hb ov ob tp cap F 0 kO ext L [(ci, #[.int .i64 1], 3), (ch, #[.pointer (some ⟨hb, 0, none⟩)], 25)]) :
    Calls Tryz.prog 79 #[.pointer (some ⟨hb, 0, none⟩), .int .i64 1, .func (.func 80) #[] #[.pointer (some ⟨ch, 0, none⟩), .pointer (some ⟨ci, 0, none⟩)]] w fun e w' => FixPost n0 w hb ov ob cap (fixAt true F ext L) e w' := by
  unfold fixAt
  by_cases h0 : F = 0
  · subst h0
    rw [if_pos rfl]
    go_enter Tryz.func79, Tryz.ntmps79
    go_wp2_with (first | ((with_reducible show wpList _ _ _ (⟨_, .box 25 _, _, _, _, _⟩ :: _) _ _); refine wpList_box1 rfl 25 _ rfl (.pointer (some ⟨hb, 0, none⟩)) rfl rfl ?_; intro wa hB hL hs; replace cur := cur.push hL hB (Nat.le_refl _) rfl; clear hB hL hs) | ((with_reducible show wpList _ _ _ (⟨_, .box 3 _, _, _, _, _⟩ :: _) _ _); refine wpList_box1 rfl 3 _ rfl (.int .i64 1) rfl rfl ?_; intro wb hB hL hs; replace cur := cur.push hL hB (Nat.le_refl _) rfl; clear hB hL hs) | ((with_reducible show wpList _ _ _ (⟨_, .box 136 _, _, _, _, _⟩ :: _) _ _); refine wpList_box1 rfl 136 _ rfl (.func (.func 80) #[] #[.pointer (some ⟨ch, 0, none⟩), .pointer (some ⟨ci, 0, none⟩)]) rfl rfl ?_; intro wc hB hL hs; replace cur := cur.push hL hB (Nat.le_refl _) rfl; clear hB hL hs) | ((with_reducible show wpList _ _ _ (⟨_, .load 25 (.tmp 3), _, _, _, _⟩ :: _) _ _); refine wpList_load1 (by rfl) 25 _ rfl _ 0 rfl (.pointer (some ⟨hb, 0, none⟩)) (Tryz.isAgg25 _) ((cur.blk 2 rfl).cell 0) ?_) | ((with_reducible show wpList _ _ _ (⟨_, .load 3 (.tmp 4), _, _, _, _⟩ :: _) _ _); refine wpList_load1 (by rfl) 3 _ rfl _ 0 rfl (.int .i64 1) (Tryz.isAgg3 _) ((cur.blk 1 rfl).cell 0) ?_) | (go_at_call 61; refine (eprev_out cur.s).mono ?_; rintro e wY ⟨tp', rfl, s9, k9⟩; replace cur := cur.go s9 k9))
    go_ret2
    exact ⟨tp', rfl, cur.s, cur.k⟩
  · rw [if_neg h0]
    obtain ⟨F1, hF1⟩ : ∃ F1, F = F1 + 1 := ⟨F - 1, by omega⟩
    have HP : Hid (∀ W (tp : Option Addr) (s : StX n0 W hb ov ob tp cap F 0 kO ext L), Calls Tryz.prog 61 #[.pointer (some ⟨hb, 0, none⟩), .int .i64 1] W fun e w' => Did (.tuple #[.bool true, .nilIface]) n0 W hb ov ob cap (F1 : Int) kO false L e w') := Lib.hid fun W tp s => by
      have := eprev_in s (by omega)
      rw [show ((F : Nat) : Int) - 1 = (F1 : Int) by omega] at this
      exact this
    have HX := Lib.hid hx
    clear hx
    by_cases h1 : F = 1
    · rw [if_pos h1]
      obtain rfl : F1 = 0 := by omega
      clear h0 h1 hF1
      go_enter Tryz.func79, Tryz.ntmps79
      go_wp2_with (first | ((with_reducible show wpList _ _ _ (⟨_, .box 25 _, _, _, _, _⟩ :: _) _ _); refine wpList_box1 rfl 25 _ rfl (.pointer (some ⟨hb, 0, none⟩)) rfl rfl ?_; intro wa hB hL hs; replace cur := cur.push hL hB (Nat.le_refl _) rfl; clear hB hL hs) | ((with_reducible show wpList _ _ _ (⟨_, .box 3 _, _, _, _, _⟩ :: _) _ _); refine wpList_box1 rfl 3 _ rfl (.int .i64 1) rfl rfl ?_; intro wb hB hL hs; replace cur := cur.push hL hB (Nat.le_refl _) rfl; clear hB hL hs) | ((with_reducible show wpList _ _ _ (⟨_, .box 136 _, _, _, _, _⟩ :: _) _ _); refine wpList_box1 rfl 136 _ rfl (.func (.func 80) #[] #[.pointer (some ⟨ch, 0, none⟩), .pointer (some ⟨ci, 0, none⟩)]) rfl rfl ?_; intro wc hB hL hs; replace cur := cur.push hL hB (Nat.le_refl _) rfl; clear hB hL hs) | ((with_reducible show wpList _ _ _ (⟨_, .load 25 (.tmp 3), _, _, _, _⟩ :: _) _ _); refine wpList_load1 (by rfl) 25 _ rfl _ 0 rfl (.pointer (some ⟨hb, 0, none⟩)) (Tryz.isAgg25 _) ((cur.blk 2 rfl).cell 0) ?_) | ((with_reducible show wpList _ _ _ (⟨_, .load 3 (.tmp 4), _, _, _, _⟩ :: _) _ _); refine wpList_load1 (by rfl) 3 _ rfl _ 0 rfl (.int .i64 1) (Tryz.isAgg3 _) ((cur.blk 1 rfl).cell 0) ?_) | (go_at_call 61; refine (HP.out _ _ cur.s).mono ?_; rintro e wY ⟨tp', rfl, s9, k9⟩; replace cur := cur.go s9 k9) | (go_at_call 123; refine (each_out cur.s _).mono ?_; rintro e wZ ⟨tp2, rfl, s8, k8⟩; replace cur := cur.go s8 k8))
      go_ret2
      exact ⟨tp2, rfl, cur.s, cur.k⟩
    · rw [if_neg h1]
      obtain ⟨R, hR⟩ : ∃ R, fixRun true (sortK L) (F - 2) L = R := ⟨_, rfl⟩
      rw [hR]
      have HR : Hid (fixRun true (sortK L) (F1 - 1) L = R) := Lib.hid (by rw [← hR, hF1]; rfl)
      have HF : Hid (0 < F1 ∧ F1 ≤ 9223372036854775807) := Lib.hid (by omega)
      obtain ⟨b, f, M⟩ := R
      clear h0 h1 hF1 hR
      cases b
      · go_enter Tryz.func79, Tryz.ntmps79
        go_wp2_with (first | ((with_reducible show wpList _ _ _ (⟨_, .box 25 _, _, _, _, _⟩ :: _) _ _); refine wpList_box1 rfl 25 _ rfl (.pointer (some ⟨hb, 0, none⟩)) rfl rfl ?_; intro wa hB hL hs; replace cur := cur.push hL hB (Nat.le_refl _) rfl; clear hB hL hs) | ((with_reducible show wpList _ _ _ (⟨_, .box 3 _, _, _, _, _⟩ :: _) _ _); refine wpList_box1 rfl 3 _ rfl (.int .i64 1) rfl rfl ?_; intro wb hB hL hs; replace cur := cur.push hL hB (Nat.le_refl _) rfl; clear hB hL hs) | ((with_reducible show wpList _ _ _ (⟨_, .box 136 _, _, _, _, _⟩ :: _) _ _); refine wpList_box1 rfl 136 _ rfl (.func (.func 80) #[] #[.pointer (some ⟨ch, 0, none⟩), .pointer (some ⟨ci, 0, none⟩)]) rfl rfl ?_; intro wc hB hL hs; replace cur := cur.push hL hB (Nat.le_refl _) rfl; clear hB hL hs) | ((with_reducible show wpList _ _ _ (⟨_, .load 25 (.tmp 3), _, _, _, _⟩ :: _) _ _); refine wpList_load1 (by rfl) 25 _ rfl _ 0 rfl (.pointer (some ⟨hb, 0, none⟩)) (Tryz.isAgg25 _) ((cur.blk 2 rfl).cell 0) ?_) | ((with_reducible show wpList _ _ _ (⟨_, .load 3 (.tmp 4), _, _, _, _⟩ :: _) _ _); refine wpList_load1 (by rfl) 3 _ rfl _ 0 rfl (.int .i64 1) (Tryz.isAgg3 _) ((cur.blk 1 rfl).cell 0) ?_) | (go_at_call 61; refine (HP.out _ _ cur.s).mono ?_; rintro e wY ⟨tp', rfl, s9, k9⟩; replace cur := cur.go s9 k9) | (go_at_call 123; refine (each_freeze HF.out HX.out (cur.perm ((List.perm_append_comm (l₁ := [_, _]) (l₂ := [_])).append_right [_, _])).again _ HR.out).mono ?_; rintro e wZ ⟨tp2, rfl, s8, k8⟩; replace cur := cur.go s8 k8))
        go_ret2
        exact ⟨tp2, rfl, cur.s, cur.k⟩
      · go_enter Tryz.func79, Tryz.ntmps79
        go_wp2_with (first | ((with_reducible show wpList _ _ _ (⟨_, .box 25 _, _, _, _, _⟩ :: _) _ _); refine wpList_box1 rfl 25 _ rfl (.pointer (some ⟨hb, 0, none⟩)) rfl rfl ?_; intro wa hB hL hs; replace cur := cur.push hL hB (Nat.le_refl _) rfl; clear hB hL hs) | ((with_reducible show wpList _ _ _ (⟨_, .box 3 _, _, _, _, _⟩ :: _) _ _); refine wpList_box1 rfl 3 _ rfl (.int .i64 1) rfl rfl ?_; intro wb hB hL hs; replace cur := cur.push hL hB (Nat.le_refl _) rfl; clear hB hL hs) | ((with_reducible show wpList _ _ _ (⟨_, .box 136 _, _, _, _, _⟩ :: _) _ _); refine wpList_box1 rfl 136 _ rfl (.func (.func 80) #[] #[.pointer (some ⟨ch, 0, none⟩), .pointer (some ⟨ci, 0, none⟩)]) rfl rfl ?_; intro wc hB hL hs; replace cur := cur.push hL hB (Nat.le_refl _) rfl; clear hB hL hs) | ((with_reducible show wpList _ _ _ (⟨_, .load 25 (.tmp 3), _, _, _, _⟩ :: _) _ _); refine wpList_load1 (by rfl) 25 _ rfl _ 0 rfl (.pointer (some ⟨hb, 0, none⟩)) (Tryz.isAgg25 _) ((cur.blk 2 rfl).cell 0) ?_) | ((with_reducible show wpList _ _ _ (⟨_, .load 3 (.tmp 4), _, _, _, _⟩ :: _) _ _); refine wpList_load1 (by rfl) 3 _ rfl _ 0 rfl (.int .i64 1) (Tryz.isAgg3 _) ((cur.blk 1 rfl).cell 0) ?_) | (go_at_call 61; refine (HP.out _ _ cur.s).mono ?_; rintro e wY ⟨tp', rfl, s9, k9⟩; replace cur := cur.go s9 k9) | (go_at_call 123; refine (each_freeze HF.out HX.out (cur.perm ((List.perm_append_comm (l₁ := [_, _]) (l₂ := [_])).append_right [_, _])).again _ HR.out).mono ?_; rintro e wZ ⟨tp2, rfl, s8, k8⟩; replace cur := cur.go s8 k8))
        go_ret2
        exact ⟨tp2, rfl, cur.s, cur.k⟩

set_option maxRecDepth 100000 in
set_option maxHeartbeats 4000000 in
theorem seal_any {n0 : Nat} {w : World} {hb : Nat} {ov : Value} {ob : Nat} {tp : Option Addr} {cap : Int} {F : Nat} {ext : Bool} {L : List (Ky × Ds)} (s : StX n0 w hb ov ob tp cap F 0 kO ext L) (hF : F ≤ 9223372036854775807) (hx : FixOk L) : Calls Tryz.prog 34 #[.pointer (some ⟨hb, 0, none⟩), .int .i64 1] w fun e w' => FixPost n0 w hb ov ob cap (fixAt false F ext L) e w' := by
  obtain ⟨R, hR⟩ : ∃ R, fixAt false F ext L = R := ⟨_, rfl⟩
  have HC : Hid (∀ (W : World) (tp : Option Addr) (cur : Bag n0 W W hb ov ob tp cap F 0 kO ext L []), Calls Tryz.prog 79 #[.pointer (some ⟨hb, 0, none⟩), .int .i64 1, .func (.func 82) #[] #[]] W fun e w' => FixPost n0 W hb ov ob cap R e w') := Lib.hid fun W tp cur => by
    rw [← hR]; exact fix_seal hF hx cur
  rw [hR]
  have cur := Bag.start s
  clear s hx hR
  obtain ⟨b, f, x, M⟩ := R
  cases b
  all_goals
    go_enter Tryz.func34, Tryz.ntmps34
    go_wp2_with (first | (go_at_call 78; refine (there_obj cur.s).mono ?_; rintro e wX ⟨rfl, rfl⟩) | (go_at_call 79; refine (HC.out _ _ cur.again).mono ?_; rintro e wY ⟨tp', rfl, s9, k9⟩; replace cur := cur.go s9 k9))
    go_ret2
    exact ⟨tp', rfl, cur.s, cur.k⟩

set_option maxRecDepth 100000 in
set_option maxHeartbeats 4000000 in
theorem freeze_any {n0 : Nat} {w : World} {hb : Nat} {ov : Value} {ob : Nat} {tp : Option Addr} {cap : Int} {F : Nat} {ext : Bool} {L : List (Ky × Ds)} (s : StX n0 w hb ov ob tp cap F 0 kO ext L) (hF : F ≤ 9223372036854775807) (hx : FixOk L) : Calls Tryz.prog 33 #[.pointer (some ⟨hb, 0, none⟩), .int .i64 1] w fun e w' => FixPost n0 w hb ov ob cap (fixAt true F ext L) e w' := by
  obtain ⟨R, hR⟩ : ∃ R, fixAt true F ext L = R := ⟨_, rfl⟩
  have HC : Hid (∀ (W : World) (tp : Option Addr) (ch ci : Nat) (cur : Bag n0 W W hb ov ob tp cap F 0 kO ext L [(ci, #[.int .i64 1], 3), (ch, #[.pointer (some ⟨hb, 0, none⟩)], 25)]), Calls Tryz.prog 79 #[.pointer (some ⟨hb, 0, none⟩), .int .i64 1, .func (.func 80) #[] #[.pointer (some ⟨ch, 0, none⟩), .pointer (some ⟨ci, 0, none⟩)]] W fun e w' => FixPost n0 W hb ov ob cap R e w') := Lib.hid fun W tp ch ci cur => by
    rw [← hR]; exact fix_freeze hF hx cur
  rw [hR]
  have cur := Bag.start s
  clear s hx hR
  obtain ⟨b, f, x, M⟩ := R
  cases b
  all_goals
    go_enter Tryz.func33, Tryz.ntmps33
    go_wp2_with (first | ((with_reducible show wpList _ _ _ (⟨_, .box 25 _, _, _, _, _⟩ :: _) _ _); refine wpList_box1 rfl 25 _ rfl (.pointer (some ⟨hb, 0, none⟩)) rfl rfl ?_; intro wa hB hL hs; replace cur := cur.push hL hB (Nat.le_refl _) rfl; clear hB hL hs) | ((with_reducible show wpList _ _ _ (⟨_, .box 3 _, _, _, _, _⟩ :: _) _ _); refine wpList_box1 rfl 3 _ rfl (.int .i64 1) rfl rfl ?_; intro wb hB hL hs; replace cur := cur.push hL hB (Nat.le_refl _) rfl; clear hB hL hs) | ((with_reducible show wpList _ _ _ (⟨_, .load 25 (.tmp 2), _, _, _, _⟩ :: _) _ _); refine wpList_load1 (by rfl) 25 _ rfl _ 0 rfl (.pointer (some ⟨hb, 0, none⟩)) (Tryz.isAgg25 _) ((cur.blk 1 rfl).cell 0) ?_) | ((with_reducible show wpList _ _ _ (⟨_, .load 3 (.tmp 3), _, _, _, _⟩ :: _) _ _); refine wpList_load1 (by rfl) 3 _ rfl _ 0 rfl (.int .i64 1) (Tryz.isAgg3 _) ((cur.blk 0 rfl).cell 0) ?_) | (go_at_call 78; refine (there_obj cur.s).mono ?_; rintro e wX ⟨rfl, rfl⟩) | (go_at_call 79; refine (HC.out _ _ _ _ cur.again).mono ?_; rintro e wY ⟨tp', rfl, s9, k9⟩; replace cur := cur.go s9 k9))
    go_ret2
    exact ⟨tp', rfl, cur.s, cur.k⟩


end Go.Proofs.YtoalboilghgalaaGreatDoor

/- integrity.sealed, frozen. -/
namespace Go.Proofs.YtoalboilghgalaaGreatDoor
open Go.RowKit
open Go.Proofs.Dc (V Ds Ky)
attribute [local go_sem] run_store_float

attribute [local go_sem] Oper.semAt_some
def sealedB (d : Ds) : Bool := d.c != 2
def frozenB (d : Ds) : Bool := d.c != 2 && d.w != 2
set_option maxRecDepth 100000 in
set_option maxHeartbeats 4000000 in
theorem sealed_any (d : Ds) (w : World) : Calls Tryz.prog 150 #[.agg (dArr d)] w fun e w' => e = .returned (.bool (sealedB d)) ∧ Below w.heap.size w w' := by
  unfold sealedB
  go_enter Tryz.func150, Tryz.ntmps150
  go_wp2_with ((with_reducible show wpList _ _ _ (⟨_, .box 43 _, _, _, _, _⟩ :: _) _ _); refine wpList_box_blk rfl 43 _ rfl (dArr d) rfl ?_; intro w1 hD hL hs; have hcD := hD.cellD)
  go_ret
  exact ⟨rfl, hL⟩

set_option maxRecDepth 100000 in
set_option maxHeartbeats 4000000 in
theorem frozen_any (d : Ds) (w : World) : Calls Tryz.prog 121 #[.agg (dArr d)] w fun e w' => e = .returned (.bool (frozenB d)) ∧ Below w.heap.size w w' := by
  have HS := Lib.hid fun w => sealed_any d w
  unfold frozenB
  unfold sealedB at HS
  obtain ⟨b, hb⟩ : ∃ b, (d.c != 2) = b := ⟨_, rfl⟩
  rw [hb] at HS ⊢
  clear hb
  cases b
  all_goals
    go_enter Tryz.func121, Tryz.ntmps121
    go_wp2_with (first | ((with_reducible show wpList _ _ _ (⟨_, .box 43 _, _, _, _, _⟩ :: _) _ _); refine wpList_box_blk rfl 43 _ rfl (dArr d) rfl ?_; intro w1 hD hL hs; have hcD := hD.cellD) | ((with_reducible show wpList _ _ _ (⟨_, .load 43 (.tmp 1), _, _, _, _⟩ :: _) _ _); refine wpList_load_blk rfl 43 _ rfl _ rfl hD Tryz.row43 Tryz.size43 ?_) | (go_at_call 150; refine (HS.out _).mono ?_; rintro e w2 ⟨rfl, hb2⟩; replace hD := hD.next hb2; have hcD2 := hD.cellD; clear hcD))
    go_ret
    exact ⟨rfl, hL.trans (hb2.mono hL.size)⟩

end Go.Proofs.YtoalboilghgalaaGreatDoor

/- heap.New. -/
namespace Go.Proofs.YtoalboilghgalaaGreatDoor
open Go.RowKit
open Go.Proofs.Dc (V Ds Ky)
attribute [local go_sem] run_store_float

attribute [local go_sem] Oper.semAt_some
set_option maxRecDepth 100000 in
set_option maxHeartbeats 4000000 in
theorem new_any (c f : Int) (w : World) (h0 : 0 ≤ c) (h1 : c ≤ 65536) (h2 : 0 ≤ f) : Calls Tryz.prog 8 #[.int .i64 c, .int .i64 f, .int .i64 10] w fun e w' => e = .returned (.tuple #[.pointer (some ⟨w.heap.size, 0, none⟩), .int .i64 0]) ∧ Blk w' w.heap.size (hArr c f 10 0 (.slice none 0 0)) 102 ∧ Below w.heap.size w w' := by
  have h3 : ¬ c < 0 := by omega
  have h4 : ¬ 65536 < c := by omega
  have h5 : ¬ f < 0 := by omega
  go_enter Tryz.func8, Tryz.ntmps8
  go_wp2_with ((with_reducible show wpList _ _ _ (⟨_, .box 102 _, _, _, _, _⟩ :: _) _ _); refine wpList_box_blk rfl 102 _ rfl (hArr c f 10 0 (.slice none 0 0)) rfl ?_; intro w1 hH hL hs)
  go_ret2
  exact ⟨rfl, hH, hL⟩

end Go.Proofs.YtoalboilghgalaaGreatDoor

/- The empty heap: lost, Check, base of the null value; Room. -/
namespace Go.Proofs.YtoalboilghgalaaGreatDoor
open Go.RowKit
open Go.Proofs.Dc (V Ds Ky)
attribute [local go_sem] run_store_float

attribute [local go_sem] Oper.semAt_some
set_option maxRecDepth 100000 in
set_option maxHeartbeats 4000000 in
theorem nlost (hb : Nat) (w : World) : Calls Tryz.prog 92 #[.pointer (some ⟨hb, 0, none⟩), .agg (vArr vN)] w fun e w' => e = .returned (.bool false) ∧ Below w.heap.size w w' := by
  have hk : vN.kind = 2 := rfl
  go_enter Tryz.func92, Tryz.ntmps92
  go_wp2_with ((with_reducible show wpList _ _ _ (⟨_, .box 36 _, _, _, _, _⟩ :: _) _ _); refine wpList_box_blk rfl 36 _ rfl (vArr vN) rfl ?_; intro w1 hV hL hs; clear hs; have hcV := hV.cellV)
  go_ret
  exact ⟨rfl, hL⟩

set_option maxRecDepth 100000 in
set_option maxHeartbeats 4000000 in
theorem ncheck (hb : Nat) (w : World) (hT : Tabs w) : Calls Tryz.prog 43 #[.pointer (some ⟨hb, 0, none⟩), .agg (vArr vN)] w fun e w' => e = .returned (.int .i64 0) ∧ Below w.heap.size w w' := by
  have HC : Hid (∀ W, Tabs W → Calls Tryz.prog 40 #[.agg (vArr vN)] W fun e w' => e = .returned (.int .i64 0) ∧ Below W.heap.size W w') := Lib.hid fun W hT => by
    have := check_any vN W hT (by decide)
    rw [show Dc.good uvalid vN = true by decide, if_pos rfl] at this
    exact this
  go_enter Tryz.func43, Tryz.ntmps43
  go_wp2_with (first | ((with_reducible show wpList _ _ _ (⟨_, .box 36 _, _, _, _, _⟩ :: _) _ _); refine wpList_box_blk rfl 36 _ rfl (vArr vN) rfl ?_; intro w1 hV hL hs; clear hs; have hcV := hV.cellV) | ((with_reducible show wpList _ _ _ (⟨_, .load 36 _, _, _, _, _⟩ :: _) _ _); refine wpList_load_blk rfl 36 _ rfl _ rfl hV Tryz.row36 Tryz.size36 ?_) | (go_at_call 40; refine (HC.out _ (hT.below hL)).mono ?_; rintro e w2 ⟨rfl, hb2⟩; replace hV := hV.next hb2; replace hL := hL.trans (hb2.mono hL.size)) | (go_at_call 92; refine (nlost hb _).mono ?_; rintro e w3 ⟨rfl, hb3⟩))
  go_ret
  exact ⟨rfl, hL.trans (hb3.mono hL.size)⟩

set_option maxRecDepth 100000 in
set_option maxHeartbeats 4000000 in
theorem nbase (hb : Nat) (w : World) (hT : Tabs w) : Calls Tryz.prog 95 #[.pointer (some ⟨hb, 0, none⟩), .agg (vArr vN)] w fun e w' => e = .returned (.int .i64 0) ∧ Below w.heap.size w w' := by
  have hk : vN.kind = 2 := rfl
  go_enter Tryz.func95, Tryz.ntmps95
  go_wp2_with (first | ((with_reducible show wpList _ _ _ (⟨_, .box 36 _, _, _, _, _⟩ :: _) _ _); refine wpList_box_blk rfl 36 _ rfl (vArr vN) rfl ?_; intro w1 hV hL hs; clear hs; have hcV := hV.cellV) | ((with_reducible show wpList _ _ _ (⟨_, .load 36 _, _, _, _, _⟩ :: _) _ _); refine wpList_load_blk rfl 36 _ rfl _ rfl hV Tryz.row36 Tryz.size36 ?_) | (go_at_call 43; refine (ncheck hb _ (hT.below hL)).mono ?_; rintro e w2 ⟨rfl, hb2⟩; replace hV := hV.next hb2; have hcV2 := hV.cellV; clear hcV; replace hL := hL.trans (hb2.mono hL.size)))
  go_ret
  exact ⟨rfl, hL⟩


end Go.Proofs.YtoalboilghgalaaGreatDoor

/- The empty heap: Room, Add. -/
namespace Go.Proofs.YtoalboilghgalaaGreatDoor
open Go.RowKit
open Go.Proofs.Dc (V Ds Ky)
attribute [local go_sem] run_store_float

attribute [local go_sem] Oper.semAt_some
theorem Tryz.info138 : (Tryz.prog.info? 138).map (fun i => (i.zero, i.size, i.bytes)) = some (some (.pointer none), 1, 8) := by kernel_rfl
/-- the heap holds one object, without a property -/
def Made (n0 : Nat) (w : World) (hb : Nat) (c f : Int) (e : Ending) (w' : World) : Prop := ∃ ov ob, e = .returned (.tuple #[.int .i64 1, .nilIface]) ∧ StX n0 w' hb ov ob none c f 0 kO true [] ∧ Keeps n0 w w'
theorem Blk.drewB {W : World} {b : Nat} {C : Array Value} {t : TypeId} (h : Blk W b C t) : Blk W.drew b C t := h
set_option maxRecDepth 100000 in
set_option maxHeartbeats 4000000 in
theorem room0 (hb : Nat) (c f : Int) (w : World) (h1 : 1 ≤ c) (hH : Blk w hb (hArr c f 10 0 (.slice none 0 0)) 102) : Calls Tryz.prog 101 #[.pointer (some ⟨hb, 0, none⟩)] w fun e w' => e = .returned (.int .i64 0) ∧ Below w.heap.size w w' := by
  have hc := hH.cellH
  have h2 : ¬ c ≤ 0 := by omega
  clear hH
  go_enter Tryz.func101, Tryz.ntmps101
  go_wp2
  go_region
  go_wp2
  go_ret
  exact ⟨rfl, (Below.refl _ _).drew⟩

set_option maxRecDepth 100000 in
set_option maxHeartbeats 4000000 in
theorem add0 (n0 hb : Nat) (c f : Int) (w : World) (hn : n0 ≤ w.heap.size) (hnb : n0 ≤ hb) (hT : Tabs w) (htn : Tryz.lays197_ren.g 3 < n0 ∧ Tryz.lays197_ren.g 4 < n0) (h1 : 1 ≤ c) (hH : Blk w hb (hArr c f 10 0 (.slice none 0 0)) 102) : Calls Tryz.prog 50 #[.pointer (some ⟨hb, 0, none⟩), .int .i64 1, .agg (vArr vN), .iface 105 (.agg #[]), .nilIface] w fun e w' => Made n0 w hb c f e w' := by
  obtain ⟨i0, hi0, hz0, hz1, hz2⟩ := info_parts Tryz.info138
  have hnew : ∀ w2 : World, (((w2.alloc (.cells (oArr kO true none) 146)).alloc (.cells #[.pointer (some ⟨w2.heap.size, 0, none⟩)] 138)).drew).heap[w2.heap.size + 1]? = some (.cells #[.pointer (some ⟨w2.heap.size, 0, none⟩)] 138 (0, 0)) := fun w2 => by
    have h := heap_alloc_new (w2.alloc (.cells (oArr kO true none) 146)) (.cells #[.pointer (some ⟨w2.heap.size, 0, none⟩)] 138)
    rw [show (w2.alloc (.cells (oArr kO true none) 146)).heap.size = w2.heap.size + 1 by simp] at h
    exact h
  replace hnew := Lib.hid hnew
  go_enter Tryz.func50, Tryz.ntmps50
  go_wp2_with (first | ((with_reducible show wpList _ _ _ (⟨_, .box 36 _, _, _, _, _⟩ :: _) _ _); refine wpList_box_blk rfl 36 _ rfl (vArr vN) rfl ?_; intro w1 hV hL hs; clear hs; have hH1 := hH.next hL) | (go_at_call 101; refine (room0 hb c f _ h1 hH1).mono ?_; rintro e w2 ⟨rfl, hb2⟩; replace hV := hV.next hb2; have hH2 := hH1.next hb2; have hcH := hH2.cellH))
  refine Ord.region (fun W => W.cell? ⟨hb, 4, none⟩ = some (.slice none 0 0) ∧ Blk W w.heap.size (vArr vN) 36) [] (by kernel_rfl) ⟨hcH 4, hV⟩ ?_
  intro hS
  refine Ord.take (i := 0) (v := ?_) 19 rfl rfl (by kernel_rfl) (by kernel_rfl) (by kernel_rfl) (by kernel_rfl) (fun _ _ _ h => h) (by assumption) (Or.inl ⟨by rfl, ?_⟩) ?_
  rotate_left
  · (intro W hSW; first | (with_reducible rfl) | (go_simp; done) | (go_simp; with_reducible rfl))
  try simp only [List.setIfInBounds_toArray, List.set_cons_zero, List.set_cons_succ]
  refine Ord.take (i := 1) (v := ?_) 20 rfl rfl (by kernel_rfl) (by kernel_rfl) (by kernel_rfl) (by kernel_rfl) (fun _ _ _ h => h) (by assumption) (Or.inl ⟨by rfl, ?_⟩) ?_
  rotate_left
  · (intro W hSW; first | (with_reducible rfl) | (go_simp; done) | (go_simp; with_reducible rfl))
  try simp only [List.setIfInBounds_toArray, List.set_cons_zero, List.set_cons_succ]
  refine Ord.take (i := 2) (v := ?_) 21 rfl rfl (by kernel_rfl) (by kernel_rfl) (by kernel_rfl) (by kernel_rfl) (fun _ _ _ h => h) (by assumption) (Or.inl ⟨by rfl, ?_⟩) ?_
  rotate_left
  · (intro W hSW; first | (with_reducible rfl) | (go_simp; done) | (go_simp; with_reducible rfl))
  try simp only [List.setIfInBounds_toArray, List.set_cons_zero, List.set_cons_succ]
  refine Ord.take (i := 3) (v := ?_) 22 rfl rfl (by kernel_rfl) (by kernel_rfl) (by kernel_rfl) (by kernel_rfl) (fun _ _ _ h => h) (by assumption) (Or.inl ⟨by rfl, ?_⟩) ?_
  rotate_left
  · (intro W hSW; first | (with_reducible rfl) | (go_simp; done) | (go_simp; with_reducible rfl))
  try simp only [List.setIfInBounds_toArray, List.set_cons_zero, List.set_cons_succ]
  refine Ord.take (i := 4) (v := ?_) 23 rfl rfl (by kernel_rfl) (by kernel_rfl) (by kernel_rfl) (by kernel_rfl) (fun _ _ _ h => h) (by assumption) (Or.inl ⟨by rfl, ?_⟩) ?_
  rotate_left
  · (intro W hSW; first | (with_reducible rfl) | (go_simp; done) | (go_simp; with_reducible rfl))
  try simp only [List.setIfInBounds_toArray, List.set_cons_zero, List.set_cons_succ]
  refine Ord.take (i := 5) (v := ?_) 24 rfl rfl (by kernel_rfl) (by kernel_rfl) (by kernel_rfl) (by kernel_rfl) (fun _ _ _ h => h) (by assumption) (Or.inl ⟨by rfl, ?_⟩) ?_
  rotate_left
  · (intro W hSW; first | (with_reducible rfl) | (go_simp; done) | (go_simp; with_reducible rfl))
  try simp only [List.setIfInBounds_toArray, List.set_cons_zero, List.set_cons_succ]
  refine Ord.take (i := 6) 25 rfl rfl (by kernel_rfl) (by kernel_rfl) (by kernel_rfl) (by kernel_rfl) (fun _ _ _ h => h) (by assumption) (yieldsIf_load_mid (by rfl) 36 _ rfl w.heap.size 0 rfl [.int .i64 2, .bool false, .float .f64 0, .string ByteArray.empty, .int .i64 0] _ (fun W hSW => range_all hSW.2) Tryz.underlying36 rfl Tryz.size36) ?_
  try simp only [List.setIfInBounds_toArray, List.set_cons_zero, List.set_cons_succ]
  refine Ord.take (i := 7) (v := ?_) 26 rfl rfl (by kernel_rfl) (by kernel_rfl) (by kernel_rfl) (by kernel_rfl) (fun _ _ _ h => h) (by assumption) (Or.inl ⟨by rfl, ?_⟩) ?_
  rotate_left
  · (intro W hSW; first | (with_reducible rfl) | (go_simp; done) | (go_simp; with_reducible rfl))
  try simp only [List.setIfInBounds_toArray, List.set_cons_zero, List.set_cons_succ]
  refine Ord.take (i := 8) (v := ?_) 27 rfl rfl (by kernel_rfl) (by kernel_rfl) (by kernel_rfl) (by kernel_rfl) (fun _ _ _ h => h) (by assumption) (Or.inl ⟨by rfl, ?_⟩) ?_
  rotate_left
  · (intro W hSW; first | (with_reducible rfl) | (go_simp; done) | (go_simp; with_reducible rfl))
  try simp only [List.setIfInBounds_toArray, List.set_cons_zero, List.set_cons_succ]
  refine Ord.take (i := 9) (v := ?_) 28 rfl rfl (by kernel_rfl) (by kernel_rfl) (by kernel_rfl) (by kernel_rfl) (fun _ _ _ h => h) (by assumption) (Or.inl ⟨by rfl, ?_⟩) ?_
  rotate_left
  · (intro W hSW; first | (with_reducible rfl) | (go_simp; done) | (go_simp; with_reducible rfl))
  try simp only [List.setIfInBounds_toArray, List.set_cons_zero, List.set_cons_succ]
  refine Ord.step (i := 10) rfl (by kernel_rfl) (by rfl) ?_
  intro K HK
  go_simp
  refine HK.out _ _ ?_
  clear HK
  refine Ord.keep (S := fun W => W.cell? ⟨hb, 4, none⟩ = some (.slice none 0 0) ∧ Blk W w.heap.size (vArr vN) 36) ?_ ?_
  · exact ⟨(hH2.drewB.alloc _).cellH 4, (hV.drewB).alloc _⟩
  clear hS
  intro hS
  try simp only [List.setIfInBounds_toArray, List.set_cons_zero, List.set_cons_succ]
  refine Ord.step (i := 11) rfl (by kernel_rfl) (by rfl) ?_
  intro K HK
  go_simp
  refine HK.out _ _ ?_
  clear HK
  refine Ord.keep (S := fun W => W.cell? ⟨hb, 4, none⟩ = some (.slice none 0 0) ∧ Blk W w.heap.size (vArr vN) 36) ?_ ?_
  · exact ⟨((hH2.drewB.alloc _).alloc _).cellH 4, ((hV.drewB).alloc _).alloc _⟩
  clear hS
  intro hS
  try simp only [List.setIfInBounds_toArray, List.set_cons_zero, List.set_cons_succ]
  refine Ord.step (i := 12) rfl (by kernel_rfl) (by rfl) ?_
  intro K HK
  refine wp_append_lies _ (.tmp 23) (.tmp 30) 100 rfl n0 138 i0 _ 1 _ Tryz.underlying100 hi0 hz0 hz1 hz2 rfl (by decide) (.slice none 0 0) 0 [] rfl ⟨rfl, .inl ⟨rfl, rfl⟩⟩ ⟨w2.heap.size + 1, 0, none⟩ 1 1 [.pointer (some ⟨w2.heap.size, 0, none⟩)] rfl rfl (World.news_of_block (cs := #[.pointer (some ⟨w2.heap.size, 0, none⟩)]) (t := 138) (fr := (0, 0)) (hnew.out w2)) (by simp [Value.oneCell']) (by decide) (by decide) (by decide) (by have := hL.size; have := hb2.size; simp; omega) _ rfl ?_
  intro g cp w4 hown4 hgr4 hat4 hlt4
  have hb4 := below_grown0 hgr4
  have hH4 := (show Blk (((w2.alloc _).alloc _)).drew hb _ 102 from ((hH2.alloc _).alloc _).drewB).next hb4
  have hV4 := (show Blk (((w2.alloc _).alloc _)).drew w.heap.size _ 36 from ((hV.alloc _).alloc _).drewB).next hb4
  refine HK.out _ _ ?_
  clear HK
  refine Ord.keep (S := fun W => W.cell? ⟨hb, 4, none⟩ = some (.slice none 0 0) ∧ Blk W w.heap.size (vArr vN) 36) ?_ ?_
  · exact ⟨hH4.cellH 4, hV4⟩
  clear hS
  intro hS
  try simp only [List.setIfInBounds_toArray, List.set_cons_zero, List.set_cons_succ]
  refine Ord.take (i := 13) (v := ?_) 32 rfl rfl (by kernel_rfl) (by kernel_rfl) (by kernel_rfl) (by kernel_rfl) (fun _ _ _ h => h) (by assumption) (Or.inl ⟨by rfl, ?_⟩) ?_
  rotate_left
  · (intro W hSW; first | (with_reducible rfl) | (go_simp; done) | (go_simp; with_reducible rfl))
  try simp only [List.setIfInBounds_toArray, List.set_cons_zero, List.set_cons_succ]
  refine Ord.take (i := 14) (v := ?_) 33 rfl rfl (by kernel_rfl) (by kernel_rfl) (by kernel_rfl) (by kernel_rfl) (fun _ _ _ h => h) (by assumption) (Or.inl ⟨by rfl, ?_⟩) ?_
  rotate_left
  · (intro W hSW; first | (with_reducible rfl) | (go_simp; done) | (go_simp; with_reducible rfl))
  try simp only [List.setIfInBounds_toArray, List.set_cons_zero, List.set_cons_succ]
  refine Ord.step (i := 15) rfl (by kernel_rfl) (by rfl) ?_
  intro K HK
  have hcH4 := hH4.cellH
  have hfH4 := hH4.frozen
  go_simp
  refine HK.out _ _ ?_
  clear HK
  refine ⟨Ord.no_pend (S := fun W => W.cell? ⟨hb, 4, none⟩ = some (.slice none 0 0) ∧ Blk W w.heap.size (vArr vN) 36) (by kernel_rfl), ?_⟩
  try simp only [List.setIfInBounds_toArray, List.set_cons_zero, List.set_cons_succ]
  refine Ord.done (by kernel_rfl) ?_ _
  obtain ⟨hH5, hO5⟩ := only_setCell (o := 4) (v := .slice (some ⟨g, 0, none⟩) 1 cp) hH4
  have hO4 : Blk w4 w2.heap.size (oArr kO true none) 146 := (show Blk (((w2.alloc _).alloc _)).drew w2.heap.size _ 146 from ((Blk.new w2 (oArr kO true none) 146).alloc _).drewB).next hb4
  have hown5 : w4.ownsRow n0 138 1 (.slice (some ⟨g, 0, none⟩) 1 cp) 1 [.pointer (some ⟨w2.heap.size, 0, none⟩)] := hown4
  have hb14 : Below w.heap.size w w4 := by
    have h12 := hL.trans (hb2.mono hL.size)
    have h3 : Below w2.heap.size w2 (((w2.alloc (.cells (oArr kO true none) 146)).alloc (.cells #[.pointer (some ⟨w2.heap.size, 0, none⟩)] 138)).drew) := (((Below.refl _ w2).alloc (Nat.le_refl _) _).alloc (by simp) _).drew
    exact h12.trans ((h3.trans (hb4.mono h3.size)).mono h12.size)
  obtain ⟨W5, hW5⟩ : ∃ W5, W5 = w4.setCell ⟨hb, 4, none⟩ (.slice (some ⟨g, 0, none⟩) 1 cp) := ⟨_, rfl⟩
  rw [← hW5] at hH5 hO5 ⊢
  have hH6 : Blk W5 hb (hArr c f 10 0 (.slice (some ⟨g, 0, none⟩) 1 cp)) 102 := hH5
  have hc6 := hH6.cellH
  have h12 := hL.trans (hb2.mono hL.size)
  have HO := Lib.hid (And.intro hown5 (And.intro hO4 (And.intro hO5 (And.intro hb14 (And.intro hH4 h12)))))
  clear hW5 hH5 hown4 hown5 hO4 hO5 hcH4 hfH4 hcH hS hgr4 hat4 hb4 hH4 hV4 hlt4
  go_wp2
  go_ret2
  obtain ⟨hown5, hO4, hO5, hb14, hH4, h12⟩ := HO.out
  have hs1 := hb14.size
  have hs2 := h12.size
  have hg := ownsRow_ne hown5 hH4 (by decide)
  refine ⟨_, w2.heap.size, rfl, ⟨hH6, ownsRow_only hown5 hO5 (fun g' hg' => by simpa using hg g' hg'), hO4.only hO5 (by simpa using hO4.ne hH4 (by decide)), .inl ⟨rfl, rfl⟩, hnb, by omega, (hT.below hb14).only hO5 (by simp; omega) (by simp; omega), htn, by have := hO5.size; omega⟩, (Keeps.of_below hb14 hn).trans (Keeps.of_only hO5 (fun b hb' => ?_) (by omega))⟩
  obtain rfl : b = hb := by simpa using hb'
  exact ⟨hnb, .inr ⟨_, hH4, rfl⟩⟩

end Go.Proofs.YtoalboilghgalaaGreatDoor

/- Make on the empty heap. -/
namespace Go.Proofs.YtoalboilghgalaaGreatDoor
open Go.RowKit
open Go.Proofs.Dc (V Ds Ky)
attribute [local go_sem] run_store_float

attribute [local go_sem] Oper.semAt_some
set_option maxRecDepth 100000 in
set_option maxHeartbeats 4000000 in
theorem make0 (n0 hb : Nat) (c f : Int) (w : World) (hn : n0 ≤ w.heap.size) (hnb : n0 ≤ hb) (hT : Tabs w) (htn : Tryz.lays197_ren.g 3 < n0 ∧ Tryz.lays197_ren.g 4 < n0) (h1 : 1 ≤ c) (hH : Blk w hb (hArr c f 10 0 (.slice none 0 0)) 102) : Calls Tryz.prog 74 #[.pointer (some ⟨hb, 0, none⟩), .agg (vArr vN)] w fun e w' => Made n0 w hb c f e w' := by
  go_enter Tryz.func74, Tryz.ntmps74
  go_wp2_with (first | ((with_reducible show wpList _ _ _ (⟨_, .box 36 _, _, _, _, _⟩ :: _) _ _); refine wpList_box_blk rfl 36 _ rfl (vArr vN) rfl ?_; intro w1 hV hL hs; clear hs; have hH1 := hH.next hL) | ((with_reducible show wpList _ _ _ (⟨_, .load 36 _, _, _, _, _⟩ :: _) _ _); refine wpList_load_blk rfl 36 _ rfl _ rfl hV Tryz.row36 Tryz.size36 ?_) | (go_at_call 95; refine (nbase hb _ (hT.below hL)).mono ?_; rintro e w2 ⟨rfl, hb2⟩; replace hV := hV.next hb2; replace hH1 := hH1.next hb2; replace hL := hL.trans (hb2.mono hL.size); have hnl := hL.size) | (go_at_call 50; refine (add0 n0 hb c f _ (Nat.le_trans hn hnl) hnb (hT.below hL) htn h1 hH1).mono ?_; rintro e w3 ⟨ov, ob, rfl, hs3, hk3⟩))
  go_ret2
  exact ⟨ov, ob, rfl, hs3, (Keeps.of_below hL hn).trans hk3⟩

end Go.Proofs.YtoalboilghgalaaGreatDoor

/- integrity: is one property fixed? -/
namespace Go.Proofs.YtoalboilghgalaaGreatDoor
open Go.RowKit
open Go.Proofs.Dc (V Ds Ky)
attribute [local go_sem] run_store_float

attribute [local go_sem] Oper.semAt_some
theorem Tryz.isAgg135 (w : World) : (isAgg 135).run Tryz.prog w = .ok false w := by kernel_rfl
theorem Tryz.size135 : (Tryz.prog.info? 135).map (·.size) = some 1 := by kernel_rfl
abbrev stopV : Value := .iface 225 (.agg #[])
set_option maxRecDepth 100000 in
set_option maxHeartbeats 4000000 in
theorem isfix_out {n0 : Nat} {w : World} {hb : Nat} {ov : Value} {ob : Nat} {tp : Option Addr} {cap : Int} {ext : Bool} {L : List (Ky × Ds)} {bp bh bi : Nat} (k : Ky) (cur : Bag n0 w w hb ov ob tp cap 0 0 kO ext L [(bp, #[.func (.func 121) #[] #[]], 135), (bi, #[.int .i64 1], 3), (bh, #[.pointer (some ⟨hb, 0, none⟩)], 25)]) : Calls Tryz.prog 149 #[.agg (kArr k), .pointer (some ⟨bh, 0, none⟩), .pointer (some ⟨bi, 0, none⟩), .pointer (some ⟨bp, 0, none⟩)] w fun e w' => Did (errV 1) n0 w hb ov ob cap 0 kO ext L e w' := by
  go_enter Tryz.func149, Tryz.ntmps149
  go_wp2_with (first | ((with_reducible show wpList _ _ _ (⟨_, .box 40 _, _, _, _, _⟩ :: _) _ _); refine wpList_box_blk rfl 40 _ rfl (kArr k) rfl ?_; intro wa hB hL hs; replace cur := cur.push hL hB (Nat.le_refl _) rfl; clear hB hL hs) | ((with_reducible show wpList _ _ _ (⟨_, .load 25 (.tmp 1), _, _, _, _⟩ :: _) _ _); refine wpList_load1 (by rfl) 25 _ rfl _ 0 rfl (.pointer (some ⟨hb, 0, none⟩)) (Tryz.isAgg25 _) ((cur.blk 3 rfl).cell 0) ?_) | ((with_reducible show wpList _ _ _ (⟨_, .load 3 (.tmp 2), _, _, _, _⟩ :: _) _ _); refine wpList_load1 (by rfl) 3 _ rfl _ 0 rfl (.int .i64 1) (Tryz.isAgg3 _) ((cur.blk 2 rfl).cell 0) ?_) | ((with_reducible show wpList _ _ _ (⟨_, .load 40 (.tmp 4), _, _, _, _⟩ :: _) _ _); refine wpList_load_blk rfl 40 _ rfl _ rfl (cur.blk 0 rfl) Tryz.row40 Tryz.size40 ?_) | (go_at_call 66; refine (eget_out cur.s k).mono ?_; rintro e wY ⟨tp', rfl, s9, k9⟩; replace cur := cur.go s9 k9) | ((with_reducible show wpList _ _ _ (⟨some 6, .alloc 43, _, _, _, _⟩ :: _) _ _); refine wpList_alloc_blk rfl 43 rfl (dArr Dc.d0) zero43 ?_; intro wc hB hL hs; have hl6 := cur.k.size; replace cur := cur.push hL hB (Nat.le_refl _) rfl; clear hB hL hs) | ((with_reducible show wpList _ _ _ (⟨_, .store 43 (.tmp 6) _, _, _, _, _⟩ :: _) _ _); refine wpList_store_blk rfl 43 _ _ rfl _ (dArr Dc.d0) _ 43 rfl rfl (cur.blk 0 rfl) Tryz.size43 rfl (dCells_one _) ?_; intro we hB hO; replace cur := cur.set 0 rfl hO hB hl6; clear hB hO))
  go_ret
  exact ⟨tp', rfl, cur.s, cur.k⟩

set_option maxRecDepth 100000 in
set_option maxHeartbeats 4000000 in
theorem isfix_in {n0 : Nat} {w : World} {hb : Nat} {ov : Value} {ob : Nat} {tp : Option Addr} {cap fuel : Int} {ext : Bool} {L : List (Ky × Ds)} {bp bh bi : Nat} (hf : 0 < fuel ∧ fuel ≤ 9223372036854775807) (k : Ky) (now : Ds) (hnow : getL L k = some now) (cur : Bag n0 w w hb ov ob tp cap fuel 0 kO ext L [(bp, #[.func (.func 121) #[] #[]], 135), (bi, #[.int .i64 1], 3), (bh, #[.pointer (some ⟨hb, 0, none⟩)], 25)]) : Calls Tryz.prog 149 #[.agg (kArr k), .pointer (some ⟨bh, 0, none⟩), .pointer (some ⟨bi, 0, none⟩), .pointer (some ⟨bp, 0, none⟩)] w fun e w' => Did (if frozenB now then .nilIface else stopV) n0 w hb ov ob cap (fuel - 1) kO ext L e w' := by
  have HE : Hid (∀ W (s : StX n0 W hb ov ob tp cap fuel 0 kO ext L), Calls Tryz.prog 66 #[.pointer (some ⟨hb, 0, none⟩), .int .i64 1, .agg (kArr k)] W fun e w' => Did (.tuple #[.agg (dArr now), .bool true, .nilIface]) n0 W hb ov ob cap (fuel - 1) kO ext L e w') := Lib.hid fun W s => by
    have := eget_in s hf k
    rw [hnow] at this
    exact this
  have HZ := Lib.hid fun W => frozen_any now W
  obtain ⟨b, hb'⟩ : ∃ b, frozenB now = b := ⟨_, rfl⟩
  rw [hb'] at HZ ⊢
  clear hb' hf hnow
  cases b
  all_goals
    go_enter Tryz.func149, Tryz.ntmps149
    go_wp2_with (first | ((with_reducible show wpList _ _ _ (⟨_, .box 40 _, _, _, _, _⟩ :: _) _ _); refine wpList_box_blk rfl 40 _ rfl (kArr k) rfl ?_; intro wa hB hL hs; replace cur := cur.push hL hB (Nat.le_refl _) rfl; clear hB hL hs) | ((with_reducible show wpList _ _ _ (⟨_, .load 25 (.tmp 1), _, _, _, _⟩ :: _) _ _); refine wpList_load1 (by rfl) 25 _ rfl _ 0 rfl (.pointer (some ⟨hb, 0, none⟩)) (Tryz.isAgg25 _) ((cur.blk 3 rfl).cell 0) ?_) | ((with_reducible show wpList _ _ _ (⟨_, .load 3 (.tmp 2), _, _, _, _⟩ :: _) _ _); refine wpList_load1 (by rfl) 3 _ rfl _ 0 rfl (.int .i64 1) (Tryz.isAgg3 _) ((cur.blk 2 rfl).cell 0) ?_) | ((with_reducible show wpList _ _ _ (⟨_, .load 40 (.tmp 4), _, _, _, _⟩ :: _) _ _); refine wpList_load_blk rfl 40 _ rfl _ rfl (cur.blk 0 rfl) Tryz.row40 Tryz.size40 ?_) | (go_at_call 66; refine (HE.out _ cur.s).mono ?_; rintro e wY ⟨tp', rfl, s9, k9⟩; replace cur := cur.go s9 k9) | ((with_reducible show wpList _ _ _ (⟨some 6, .alloc 43, _, _, _, _⟩ :: _) _ _); refine wpList_alloc_blk rfl 43 rfl (dArr Dc.d0) zero43 ?_; intro wc hB hL hs; have hl6 := cur.k.size; replace cur := cur.push hL hB (Nat.le_refl _) rfl; clear hB hL hs) | ((with_reducible show wpList _ _ _ (⟨_, .store 43 (.tmp 6) _, _, _, _, _⟩ :: _) _ _); refine wpList_store_blk rfl 43 _ _ rfl _ (dArr now) _ 43 rfl rfl (cur.blk 0 rfl) Tryz.size43 rfl (dCells_one _) ?_; intro we hB hO; replace cur := cur.set 0 rfl hO hB hl6; clear hB hO) | ((with_reducible show wpList _ _ _ (⟨_, .load 135 (.tmp 3), _, _, _, _⟩ :: _) _ _); refine wpList_load1 (by rfl) 135 _ rfl _ 0 rfl (.func (.func 121) #[] #[]) (Tryz.isAgg135 _) ((cur.blk 2 rfl).cell 0) ?_) | ((with_reducible show wpList _ _ _ (⟨_, .load 43 (.tmp 6), _, _, _, _⟩ :: _) _ _); refine wpList_load_blkW (by rfl) 43 _ rfl _ rfl (cur.blk 0 rfl) Tryz.row43 Tryz.size43 ?_) | (go_at_call 121; refine (HZ.out _).mono ?_; rintro e wZ ⟨rfl, hbZ⟩; replace cur := cur.next hbZ))
    go_ret
    exact ⟨tp', rfl, cur.s, cur.k⟩

end Go.Proofs.YtoalboilghgalaaGreatDoor

/- integrity.each over the keys of an object, each asked. -/
namespace Go.Proofs.YtoalboilghgalaaGreatDoor
open Go.RowKit
open Go.Proofs.Dc (V Ds Ky)
attribute [local go_sem] run_store_float

attribute [local go_sem] Oper.semAt_some
/-- the keys are asked one behind the other -/
def isRun (L : List (Ky × Ds)) : List Ky → Nat → Value × Nat
  | [], f => (.nilIface, f)
  | k :: r, f => if f = 0 then (errV 1, 0) else if frozenB ((getL L k).getD Dc.d0) then isRun L r (f - 1) else (stopV, f - 1)
def IsPost (n0 : Nat) (w : World) (hb : Nat) (ov : Value) (ob : Nat) (cap : Int) (ext : Bool) (L : List (Ky × Ds)) (R : Value × Nat) (e : Ending) (w' : World) : Prop :=
  ∃ tp, e = .returned R.1 ∧ StX n0 w' hb ov ob tp cap R.2 0 kO ext L ∧ Keeps n0 w w'
set_option maxRecDepth 100000 in
set_option maxHeartbeats 4000000 in
theorem each_ask {n0 : Nat} {w : World} {hb : Nat} {ov : Value} {ob : Nat} {tp : Option Addr} {cap : Int} {F0 : Nat} {ext : Bool} {L : List (Ky × Ds)} {bp bh bi : Nat} (hF : 0 < F0 ∧ F0 ≤ 9223372036854775807) (hx : FixOk L) (cur : Bag n0 w w hb ov ob tp cap F0 0 kO ext L [(bp, #[.func (.func 121) #[] #[]], 135), (bi, #[.int .i64 1], 3), (bh, #[.pointer (some ⟨hb, 0, none⟩)], 25)]) (R : Value × Nat) (hR : isRun L (sortK L) (F0 - 1) = R) :
    Calls Tryz.prog 123 #[.pointer (some ⟨hb, 0, none⟩), .int .i64 1, .func (.func 149) #[] #[.pointer (some ⟨bh, 0, none⟩), .pointer (some ⟨bi, 0, none⟩), .pointer (some ⟨bp, 0, none⟩)]] w fun e w' => IsPost n0 w hb ov ob cap ext L R e w' := by
  have HK : Hid (∀ W (tp : Option Addr) (s : StX n0 W hb ov ob tp cap F0 0 kO ext L), Calls Tryz.prog 63 #[.pointer (some ⟨hb, 0, none⟩), .int .i64 1] W fun e w' => ∃ v tp, e = .returned (.tuple #[v, .nilIface]) ∧ KeysAt w' 0 v (sortK L) ∧ StX n0 w' hb ov ob tp cap ((F0 - 1 : Nat) : Int) 0 kO ext L ∧ Keeps n0 W w') := Lib.hid fun W tp s => by
    have := ekeys_in s (by omega) hx.ok.keys
    rw [show ((F0 : Nat) : Int) - 1 = ((F0 - 1 : Nat) : Int) by omega] at this
    exact this
  obtain ⟨F1, hF1⟩ : ∃ F1, F0 - 1 = F1 := ⟨_, rfl⟩
  have hFb : F1 ≤ 9223372036854775807 := by omega
  rw [hF1] at hR HK
  obtain ⟨ks, hks⟩ : ∃ ks, sortK L = ks := ⟨_, rfl⟩
  rw [hks] at hR HK
  have hkg : ∀ k ∈ ks, k ∈ L.map (·.1) := fun k hk => by
    rw [← hks] at hk; exact (Srt.stable_perm _).mem_iff.1 hk
  have hkl : ks.length < 1000000 := by rw [← hks, sortK, (Srt.stable_perm _).length_eq, List.length_map]; exact hx.len
  obtain ⟨n, hn⟩ : ∃ n, ks.length = n := ⟨_, rfl⟩
  rw [hn] at hkl
  have HKG := Lib.hid hkg
  have HR0 := Lib.hid hR
  have HN := Lib.hid hn
  clear hkg hR hn hx hks hF1 hF
  go_enter Tryz.func123, Tryz.ntmps123
  go_upto_region 4 with (go_at_call 63; refine (HK.out _ _ cur.s).mono ?_; rintro e wY ⟨v, tp', rfl, hkv, s9, k9⟩; replace cur := cur.go s9 k9)
  rcases hkv with ⟨hk0, rfl⟩ | ⟨g, c, r, rfl, _, hB⟩
  · subst hk0
    go_wp2
    refine wp_loop_rounds 1 ?_
    rw [rounds_succ]
    go_wp2
    go_ret
    exact ⟨tp', by rw [← HR0.out]; rfl, by rw [← HR0.out]; exact cur.s, cur.k⟩
  · rw [HN.out]
    go_wp2
    go_loopg [23] n (fun fu s23 wr => ∃ (i F : Nat) (tq : Option Addr), s23 = .int .i64 i ∧ i + fu = n ∧ F ≤ 9223372036854775807 ∧ isRun L (ks.drop i) F = R ∧ Bag n0 w wr hb ov ob tq cap F 0 kO ext L [(bp, #[.func (.func 121) #[] #[]], 135), (bi, #[.int .i64 1], 3), (bh, #[.pointer (some ⟨hb, 0, none⟩)], 25)] ∧ Blk wr g (kRow ks r) 40)
    case atStart => exact ⟨0, F1, tp', rfl, by omega, hFb, HR0.out, cur, hB⟩
    case round =>
      obtain ⟨i, F, tq, rfl, hi, hFb2, hrun, cur, hKr⟩ := hrel
      clear hB HK HR0 hFb s9 k9
      by_cases hlt : i < n
      · obtain ⟨x, hxi⟩ : ∃ x, ks[i]? = some x := ⟨_, List.getElem?_eq_getElem (by rw [HN.out]; exact hlt)⟩
        have hmem := HKG.out x (List.mem_of_getElem? hxi)
        obtain ⟨now, hnow⟩ := get_of_mem hmem
        have HX := Lib.hid (And.intro hxi hnow)
        have hdrop : ks.drop i = x :: ks.drop (i + 1) := by
          rw [List.drop_eq_getElem_cons (by rw [HN.out]; exact hlt)]
          congr 1
          rw [List.getElem?_eq_getElem (by rw [HN.out]; exact hlt)] at hxi
          exact Option.some.inj hxi
        rw [hdrop, isRun, hnow] at hrun
        simp only [Option.getD_some] at hrun
        have e3 : (0 : Int) ≤ (i : Int) := by omega
        have e4 : (i : Int) < (n : Int) := by omega
        clear hdrop hnow hmem hxi
        by_cases hc : F = 0
        · subst hc
          rw [if_pos rfl] at hrun
          have HR := Lib.hid hrun
          clear hrun hi
          go_wp2_with (first | ((with_reducible show wpList _ _ _ (⟨_, .load 40 (.tmp 25), _, _, _, _⟩ :: _) _ _); refine wpList_load_mid rfl 40 _ rfl g (i * 2) rfl [.string x.str, .int .i64 x.sym] _ (kRow_range hKr i x HX.out.1) Tryz.underlying40 rfl Tryz.size40 ?_) | ((with_reducible show wpList _ _ _ (⟨_, .alloc 40, _, _, _, _⟩ :: _) _ _); refine wpList_alloc_blk rfl 40 rfl (kArr ⟨⟨#[]⟩, 0⟩) zero40 ?_; intro wa hB hL hs; have hle := cur.k.size; have hKr1 := hKr.next hL; replace cur := cur.push hL hB (Nat.le_refl _) rfl; clear hB hL hs) | ((with_reducible show wpList _ _ _ (⟨_, .store 40 _ _, _, _, _, _⟩ :: _) _ _); refine wpList_store_blk rfl 40 _ _ rfl _ (kArr x) _ 40 rfl rfl (cur.blk 0 rfl) Tryz.size40 rfl (kArr_one _) ?_; intro wb hB hO; have hKr2 := hKr1.only hO (by have := hKr.lt; simp; omega); replace cur := cur.set 0 rfl hO hB hle; clear hB hO) | ((with_reducible show wpList _ _ _ (⟨_, .load 40 (.tmp 10), _, _, _, _⟩ :: _) _ _); refine wpList_load_blk rfl 40 _ rfl _ rfl (cur.blk 0 rfl) Tryz.row40 Tryz.size40 ?_) | (go_at_call 149; refine (isfix_out x (cur.drop 1).again).mono ?_; rintro e wY ⟨tq2, rfl, s9, k9⟩; replace cur := (cur.go s9 k9).drop 1))
          go_ret
          exact ⟨tq2, by rw [← HR.out]; rfl, by rw [← HR.out]; exact cur.s, cur.k⟩
        · rw [if_neg hc] at hrun
          obtain ⟨F2, hF2⟩ : ∃ F2, F - 1 = F2 := ⟨_, rfl⟩
          rw [hF2] at hrun
          obtain ⟨b, hbb⟩ : ∃ b, frozenB now = b := ⟨_, rfl⟩
          have HC : Hid (∀ W {tp : Option Addr} (cur : Bag n0 W W hb ov ob tp cap F 0 kO ext L [(bp, #[.func (.func 121) #[] #[]], 135), (bi, #[.int .i64 1], 3), (bh, #[.pointer (some ⟨hb, 0, none⟩)], 25)]), Calls Tryz.prog 149 #[.agg (kArr x), .pointer (some ⟨bh, 0, none⟩), .pointer (some ⟨bi, 0, none⟩), .pointer (some ⟨bp, 0, none⟩)] W fun e w' => Did (if b then .nilIface else stopV) n0 W hb ov ob cap (F2 : Int) kO ext L e w') := Lib.hid fun W tp cur => by
            have := isfix_in (by omega) x now HX.out.2 cur
            rw [hbb, show ((F : Nat) : Int) - 1 = (F2 : Int) by omega] at this
            exact this
          simp only [Option.getD_some, hbb] at hrun
          have hF2b : F2 ≤ 9223372036854775807 := by omega
          clear hbb hF2 hc
          cases b
          · have HR : Hid ((stopV, F2) = R) := Lib.hid (by simpa using hrun)
            clear hrun hi
            go_wp2_with (first | ((with_reducible show wpList _ _ _ (⟨_, .load 40 (.tmp 25), _, _, _, _⟩ :: _) _ _); refine wpList_load_mid rfl 40 _ rfl g (i * 2) rfl [.string x.str, .int .i64 x.sym] _ (kRow_range hKr i x HX.out.1) Tryz.underlying40 rfl Tryz.size40 ?_) | ((with_reducible show wpList _ _ _ (⟨_, .alloc 40, _, _, _, _⟩ :: _) _ _); refine wpList_alloc_blk rfl 40 rfl (kArr ⟨⟨#[]⟩, 0⟩) zero40 ?_; intro wa hB hL hs; have hle := cur.k.size; have hKr1 := hKr.next hL; replace cur := cur.push hL hB (Nat.le_refl _) rfl; clear hB hL hs) | ((with_reducible show wpList _ _ _ (⟨_, .store 40 _ _, _, _, _, _⟩ :: _) _ _); refine wpList_store_blk rfl 40 _ _ rfl _ (kArr x) _ 40 rfl rfl (cur.blk 0 rfl) Tryz.size40 rfl (kArr_one _) ?_; intro wb hB hO; have hKr2 := hKr1.only hO (by have := hKr.lt; simp; omega); replace cur := cur.set 0 rfl hO hB hle; clear hB hO) | ((with_reducible show wpList _ _ _ (⟨_, .load 40 (.tmp 10), _, _, _, _⟩ :: _) _ _); refine wpList_load_blk rfl 40 _ rfl _ rfl (cur.blk 0 rfl) Tryz.row40 Tryz.size40 ?_) | (go_at_call 149; refine (HC.out _ (cur.drop 1).again).mono ?_; rintro e wY ⟨tq2, rfl, s9, k9⟩; replace cur := (cur.go s9 k9).drop 1; have hKr3 := hKr2.keeps k9 rfl))
            go_ret
            exact ⟨tq2, by rw [← HR.out]; rfl, by rw [← HR.out]; exact cur.s, cur.k⟩
          · obtain ⟨i2, hi2⟩ : ∃ i2, i + 1 = i2 := ⟨_, rfl⟩
            have e1 : (i : Int) + 1 = (i2 : Int) := by omega
            have e2 := wrap_nat i2 (by omega)
            obtain ⟨fu, rfl⟩ : ∃ fu, gk = fu + 1 := ⟨gk - 1, by omega⟩
            rw [hi2] at hrun
            have HRUN : Hid (isRun L (ks.drop i2) F2 = R) := Lib.hid (by simpa using hrun)
            have HI3 := Lib.hid (show i2 + fu = n by omega)
            clear hrun hi2 hi
            go_wp2_with (first | ((with_reducible show wpList _ _ _ (⟨_, .load 40 (.tmp 25), _, _, _, _⟩ :: _) _ _); refine wpList_load_mid rfl 40 _ rfl g (i * 2) rfl [.string x.str, .int .i64 x.sym] _ (kRow_range hKr i x HX.out.1) Tryz.underlying40 rfl Tryz.size40 ?_) | ((with_reducible show wpList _ _ _ (⟨_, .alloc 40, _, _, _, _⟩ :: _) _ _); refine wpList_alloc_blk rfl 40 rfl (kArr ⟨⟨#[]⟩, 0⟩) zero40 ?_; intro wa hB hL hs; have hle := cur.k.size; have hKr1 := hKr.next hL; replace cur := cur.push hL hB (Nat.le_refl _) rfl; clear hB hL hs) | ((with_reducible show wpList _ _ _ (⟨_, .store 40 _ _, _, _, _, _⟩ :: _) _ _); refine wpList_store_blk rfl 40 _ _ rfl _ (kArr x) _ 40 rfl rfl (cur.blk 0 rfl) Tryz.size40 rfl (kArr_one _) ?_; intro wb hB hO; have hKr2 := hKr1.only hO (by have := hKr.lt; simp; omega); replace cur := cur.set 0 rfl hO hB hle; clear hB hO) | ((with_reducible show wpList _ _ _ (⟨_, .load 40 (.tmp 10), _, _, _, _⟩ :: _) _ _); refine wpList_load_blk rfl 40 _ rfl _ rfl (cur.blk 0 rfl) Tryz.row40 Tryz.size40 ?_) | (go_at_call 149; refine (HC.out _ (cur.drop 1).again).mono ?_; rintro e wY ⟨tq2, rfl, s9, k9⟩; replace cur := (cur.go s9 k9).drop 1; have hKr3 := hKr2.keeps k9 rfl))
            go_roundg fu
            case measure => omega
            case rel => exact ⟨i2, F2, tq2, by go_num, HI3.out, hF2b, HRUN.out, cur, hKr3⟩
      · obtain rfl : i = n := by omega
        have hd : ks.drop i = [] := by rw [← HN.out]; exact List.drop_length
        rw [hd, isRun] at hrun
        have HR := Lib.hid hrun
        have hlti : ¬ (i : Int) < (i : Int) := by omega
        clear hrun hd
        go_wp2
        go_ret
        exact ⟨tq, by rw [← HR.out]; rfl, by rw [← HR.out]; exact cur.s, cur.k⟩

end Go.Proofs.YtoalboilghgalaaGreatDoor

/- integrity.fixed, IsFrozen. -/
namespace Go.Proofs.YtoalboilghgalaaGreatDoor
open Go.RowKit
open Go.Proofs.Dc (V Ds Ky)
attribute [local go_sem] run_store_float

attribute [local go_sem] Oper.semAt_some
theorem eqs_nil (w : World) : (binOp .eql 31 .nilIface stopV).run Tryz.prog w = .ok (.bool false) w := by kernel_rfl
theorem eqs_err (w : World) : (binOp .eql 31 (errV 1) stopV).run Tryz.prog w = .ok (.bool false) w := by kernel_rfl
theorem eqs_stop (w : World) : (binOp .eql 31 stopV stopV).run Tryz.prog w = .ok (.bool true) w := by kernel_rfl
theorem isRun_ends (L : List (Ky × Ds)) : ∀ (K : List Ky) (f : Nat), (isRun L K f).1 = .nilIface ∨ (isRun L K f).1 = errV 1 ∨ (isRun L K f).1 = stopV
  | [], f => .inl rfl
  | k :: r, f => by
    unfold isRun
    split
    · exact .inr (.inl rfl)
    · split
      · exact isRun_ends L r _
      · exact .inr (.inr rfl)
/-- what IsFrozen says of an object that lets nothing new in -/
def askAt (F : Nat) (L : List (Ky × Ds)) : Value × Nat := isRun L (sortK L) (F - 2)
def AskPost (n0 : Nat) (w : World) (hb : Nat) (ov : Value) (ob : Nat) (cap : Int) (L : List (Ky × Ds)) (R : Value × Nat) (e : Ending) (w' : World) : Prop :=
  ∃ tp, ((R.1 = .nilIface ∧ e = .returned (.tuple #[.bool true, .nilIface])) ∨ (R.1 = errV 1 ∧ e = .returned (.tuple #[.bool false, errV 1])) ∨ (R.1 = stopV ∧ e = .returned (.tuple #[.bool false, .nilIface]))) ∧ StX n0 w' hb ov ob tp cap R.2 0 kO false L ∧ Keeps n0 w w'
set_option maxRecDepth 100000 in
set_option maxHeartbeats 4000000 in
theorem fixed_any {n0 : Nat} {w : World} {hb : Nat} {ov : Value} {ob : Nat} {tp : Option Addr} {cap : Int} {F : Nat} {L : List (Ky × Ds)} (hF : 2 ≤ F ∧ F ≤ 9223372036854775807) (hx : FixOk L) (cur : Bag n0 w w hb ov ob tp cap F 0 kO false L []) :
    Calls Tryz.prog 120 #[.pointer (some ⟨hb, 0, none⟩), .int .i64 1, .func (.func 121) #[] #[]] w fun e w' => AskPost n0 w hb ov ob cap L (askAt F L) e w' := by
  obtain ⟨F1, hF1⟩ : ∃ F1, F = F1 + 1 := ⟨F - 1, by omega⟩
  have HP : Hid (∀ W (tp : Option Addr) (s : StX n0 W hb ov ob tp cap F 0 kO false L), Calls Tryz.prog 148 #[.pointer (some ⟨hb, 0, none⟩), .int .i64 1] W fun e w' => Did (.tuple #[.bool false, .nilIface]) n0 W hb ov ob cap (F1 : Int) kO false L e w') := Lib.hid fun W tp s => by
    have := eext_in s (by omega)
    rw [show ((F : Nat) : Int) - 1 = (F1 : Int) by omega] at this
    exact this
  unfold askAt
  obtain ⟨R, hR⟩ : ∃ R, isRun L (sortK L) (F - 2) = R := ⟨_, rfl⟩
  have hends := isRun_ends L (sortK L) (F - 2)
  rw [hR] at hends ⊢
  have HR : Hid (isRun L (sortK L) (F1 - 1) = R) := Lib.hid (by rw [← hR, hF1]; rfl)
  have HF : Hid (0 < F1 ∧ F1 ≤ 9223372036854775807) := Lib.hid (by omega)
  have HX := Lib.hid hx
  have q1 := eqs_nil
  have q2 := eqs_err
  have q3 := eqs_stop
  obtain ⟨v, f⟩ := R
  clear hF hF1 hR hx
  rcases hends with h | h | h
  all_goals
    simp only at h
    subst h
    go_enter Tryz.func120, Tryz.ntmps120
    go_wp2_with (first | ((with_reducible show wpList _ _ _ (⟨_, .box 25 _, _, _, _, _⟩ :: _) _ _); refine wpList_box1 rfl 25 _ rfl (.pointer (some ⟨hb, 0, none⟩)) rfl rfl ?_; intro wa hB hL hs; replace cur := cur.push hL hB (Nat.le_refl _) rfl; clear hB hL hs) | ((with_reducible show wpList _ _ _ (⟨_, .box 3 _, _, _, _, _⟩ :: _) _ _); refine wpList_box1 rfl 3 _ rfl (.int .i64 1) rfl rfl ?_; intro wb hB hL hs; replace cur := cur.push hL hB (Nat.le_refl _) rfl; clear hB hL hs) | ((with_reducible show wpList _ _ _ (⟨_, .box 135 _, _, _, _, _⟩ :: _) _ _); refine wpList_box1 rfl 135 _ rfl (.func (.func 121) #[] #[]) rfl rfl ?_; intro wc hB hL hs; replace cur := cur.push hL hB (Nat.le_refl _) rfl; clear hB hL hs) | ((with_reducible show wpList _ _ _ (⟨_, .load 25 (.tmp 3), _, _, _, _⟩ :: _) _ _); refine wpList_load1 (by rfl) 25 _ rfl _ 0 rfl (.pointer (some ⟨hb, 0, none⟩)) (Tryz.isAgg25 _) ((cur.blk 2 rfl).cell 0) ?_) | ((with_reducible show wpList _ _ _ (⟨_, .load 3 (.tmp 4), _, _, _, _⟩ :: _) _ _); refine wpList_load1 (by rfl) 3 _ rfl _ 0 rfl (.int .i64 1) (Tryz.isAgg3 _) ((cur.blk 1 rfl).cell 0) ?_) | (go_at_call 148; refine (HP.out _ _ cur.s).mono ?_; rintro e wY ⟨tp', rfl, s9, k9⟩; replace cur := cur.go s9 k9) | (go_at_call 123; refine (each_ask HF.out HX.out (cur.perm (List.Perm.refl _)).again _ HR.out).mono ?_; rintro e wZ ⟨tp2, rfl, s8, k8⟩; replace cur := cur.go s8 k8))
    go_ret2
    first | exact ⟨tp2, .inl ⟨rfl, rfl⟩, cur.s, cur.k⟩ | exact ⟨tp2, .inr (.inl ⟨rfl, rfl⟩), cur.s, cur.k⟩ | exact ⟨tp2, .inr (.inr ⟨rfl, rfl⟩), cur.s, cur.k⟩

end Go.Proofs.YtoalboilghgalaaGreatDoor

/- IsFrozen. -/
namespace Go.Proofs.YtoalboilghgalaaGreatDoor
open Go.RowKit
open Go.Proofs.Dc (V Ds Ky)
attribute [local go_sem] run_store_float

attribute [local go_sem] Oper.semAt_some
set_option maxRecDepth 100000 in
set_option maxHeartbeats 4000000 in
theorem isfrozen_any {n0 : Nat} {w : World} {hb : Nat} {ov : Value} {ob : Nat} {tp : Option Addr} {cap : Int} {F : Nat} {L : List (Ky × Ds)} (s : StX n0 w hb ov ob tp cap F 0 kO false L) (hF : 2 ≤ F ∧ F ≤ 9223372036854775807) (hx : FixOk L) : Calls Tryz.prog 76 #[.pointer (some ⟨hb, 0, none⟩), .int .i64 1] w fun e w' => AskPost n0 w hb ov ob cap L (askAt F L) e w' := by
  have HC : Hid (∀ (W : World) (tp : Option Addr) (cur : Bag n0 W W hb ov ob tp cap F 0 kO false L []), Calls Tryz.prog 120 #[.pointer (some ⟨hb, 0, none⟩), .int .i64 1, .func (.func 121) #[] #[]] W fun e w' => AskPost n0 W hb ov ob cap L (askAt F L) e w') := Lib.hid fun W tp cur => fixed_any hF hx cur
  have cur := Bag.start s
  clear s hx hF
  go_enter Tryz.func76, Tryz.ntmps76
  go_wp2_with (first | (go_at_call 78; refine (there_obj cur.s).mono ?_; rintro e wX ⟨rfl, rfl⟩) | (go_at_call 120; refine (HC.out _ _ cur.again).mono ?_; rintro e wY ⟨tp', ⟨hv, rfl⟩ | ⟨hv, rfl⟩ | ⟨hv, rfl⟩, s9, k9⟩ <;> replace cur := cur.go s9 k9 <;> replace hv := Lib.hid hv))
  all_goals go_wp2
  all_goals go_ret2
  all_goals first | exact ⟨tp', .inl ⟨hv.out, rfl⟩, cur.s, cur.k⟩ | exact ⟨tp', .inr (.inl ⟨hv.out, rfl⟩), cur.s, cur.k⟩ | exact ⟨tp', .inr (.inr ⟨hv.out, rfl⟩), cur.s, cur.k⟩


end Go.Proofs.YtoalboilghgalaaGreatDoor

/- What fixing with little fuel leaves: a beginning of the keys is fixed. Plain Lean. -/
namespace Go.Proofs.YtoalboilghgalaaGreatDoor
open Go.RowKit
open Go.Proofs.Dc (V Ds Ky)

theorem overV_num {a b : V} (h1 : a.num < 2 ^ 64) (h2 : b.num < 2 ^ 64) : (Dc.overV a b).num < 2 ^ 64 := by unfold Dc.overV; split <;> assumption
theorem fill_num2 {a : V} (h1 : a.num < 2 ^ 64) : (Dc.fill a).num < 2 ^ 64 := by
  unfold Dc.fill; split
  · exact h1
  · decide
theorem Nums.over {a b : Ds} (ha : Nums a) (hb : Nums b) : Nums (Dc.over a b) := ⟨overV_num ha.val hb.val, overV_num ha.get hb.get, overV_num ha.set hb.set⟩
theorem Nums.complete {uv : ByteArray → Bool} {a : Ds} (ha : Nums a) : Nums (Dc.complete uv a) := by
  unfold Dc.complete; split
  · exact ⟨ha.val, fill_num2 ha.get, fill_num2 ha.set⟩
  · exact ⟨fill_num2 ha.val, ha.get, ha.set⟩
theorem Nums.apply {uv : ByteArray → Bool} {ext : Bool} {a b : Ds} (ha : Nums a) (hb : Nums b) : Nums (Dc.apply uv ext a b).1 := by
  unfold Dc.apply
  split
  · split
    · exact hb.complete
    · exact ha
  · split
    · exact ha
    · split
      · exact Nums.complete ⟨hb.val, hb.get, hb.set⟩
      · exact ha.over hb
theorem put_length (L : List (Ky × Ds)) (k : Ky) (d : Ds) : (putL L k d).length ≤ L.length + 1 := by
  induction L with
  | nil => simp [putL]
  | cons a r ih =>
    rw [putL_cons]; split
    · simp
    · simp only [List.length_cons]; omega
theorem def_length (ext : Bool) (L : List (Ky × Ds)) (k : Ky) (d : Ds) : (defL ext L k d).length ≤ L.length + 1 := by
  unfold defL; split
  · exact put_length _ _ _
  · omega
/-- a property more is defined -/
theorem FixOk.define {L : List (Ky × Ds)} (h : FixOk L) (hlen : L.length < 999999) (ext : Bool) {k : Ky} {d : Ds} (hd : Nums d) (hw : wrongD k d = 0) : FixOk (defL ext L k d) := by
  obtain ⟨hk, hb⟩ := wrong_zero hw
  have hl := def_length ext L k d
  refine ⟨by omega, ?_, ?_⟩
  · unfold defL; split
    · intro p hp
      rcases mem_put hp with hp | ⟨e, _⟩
      · exact h.nums p hp
      · rw [e]; exact (h.nums.get k).apply hd
    · exact h.nums
  · unfold defL; split
    · rename_i ho
      exact h.ok.put hk (Dc.apply_whole (h.ok.now k) hb ho)
    · exact h.ok
theorem FixOk.nil : FixOk [] := ⟨by decide, (fun _ h => by cases h), ⟨List.Pairwise.nil, (fun _ h => by cases h), (fun _ h => by cases h)⟩⟩

/-- fixing key by key: how far, and what it leaves -/
theorem fixRun_eq (fz : Bool) : ∀ (K : List Ky) (f : Nat) (L : List (Ky × Ds)), (fixRun fz K f L).1 = decide (cost fz * K.length ≤ f) ∧ (fixRun fz K f L).2.2 = fixAll fz (K.take (f / cost fz)) L
  | [], f, L => by simp [fixRun, fixAll]
  | k :: r, f, L => by
    have hc : 0 < cost fz := by unfold cost; split <;> omega
    unfold fixRun
    split
    · rename_i hlt
      rw [Nat.div_eq_of_lt hlt]
      refine ⟨?_, rfl⟩
      symm; rw [decide_eq_false_iff_not, List.length_cons, Nat.mul_add]; omega
    · rename_i hge
      have ih := fixRun_eq fz r (f - cost fz) (putL L k (fixD fz ((getL L k).getD Dc.d0)))
      rw [ih.1, ih.2]
      have h1 : f / cost fz = (f - cost fz) / cost fz + 1 := by
        rw [← Nat.add_div_right _ hc, Nat.sub_add_cancel (by omega)]
      rw [h1, List.take_succ_cons, fixAll]
      refine ⟨?_, rfl⟩
      rw [List.length_cons, Nat.mul_add, Nat.mul_one]
      congr 1
      simp only [eq_iff_iff]
      omega

theorem KNodup.take {K : List Ky} (h : KNodup K) (n : Nat) : KNodup (K.take n) := h.sublist (List.take_sublist n K)
theorem sortK_nodup {L : List (Ky × Ds)} (h : LOk L) : KNodup (sortK L) := h.nodup.perm (Srt.stable_perm _)
theorem sortK_length (L : List (Ky × Ds)) : (sortK L).length = L.length := by rw [sortK, (Srt.stable_perm _).length_eq, List.length_map]
theorem sortK_mem {L : List (Ky × Ds)} {k : Ky} (h : k ∈ sortK L) : k ∈ L.map (·.1) := (Srt.stable_perm _).mem_iff.1 h
/-- what is told of an object's properties: the keys in their order, each with its descriptor -/
def picL (L : List (Ky × Ds)) : List (Ky × Ds) := (sortK L).map fun k => (k, (getL L k).getD Dc.d0)
theorem picL_length (L : List (Ky × Ds)) : (picL L).length = L.length := by rw [picL, List.length_map, sortK_length]
/-- a beginning is fixed, the rest is as it was -/
def Begun (fz : Bool) (n : Nat) (A B : List (Ky × Ds)) : Prop := A.length = B.length ∧ ∀ i (ha : i < A.length) (hb : i < B.length), A[i].1 = B[i].1 ∧ A[i].2 = if i < n then fixD fz B[i].2 else B[i].2
theorem take_any {K : List Ky} (h : KNodup K) (n i : Nat) (hi : i < K.length) : (K.take n).any (keq K[i]) = decide (i < n) := by
  rw [Bool.eq_iff_iff, List.any_eq_true, decide_eq_true_iff]
  constructor
  · rintro ⟨x, hx, he⟩
    obtain ⟨j, hj, rfl⟩ := List.getElem_of_mem hx
    rw [List.length_take] at hj
    rw [List.getElem_take] at he
    rcases Nat.lt_trichotomy i j with hlt | rfl | hlt
    · have := List.pairwise_iff_getElem.1 h i j hi (by omega) hlt
      rw [this] at he; cases he
    · omega
    · have := List.pairwise_iff_getElem.1 h j i (by omega) hi hlt
      rw [keq_symm he] at this; cases this
  · intro hlt
    exact ⟨K[i], List.mem_take_iff_getElem.2 ⟨i, by omega, rfl⟩, keq_refl _⟩
theorem begun_fix (fz : Bool) (n : Nat) {L : List (Ky × Ds)} (h : LOk L) : Begun fz n (picL (fixAll fz ((sortK L).take n) L)) (picL L) := by
  have hn := sortK_nodup h
  have hks : sortK (fixAll fz ((sortK L).take n) L) = sortK L := by
    unfold sortK
    rw [fixAll_keys]
    intro k hk
    obtain ⟨d, hd⟩ := get_of_mem (sortK_mem (List.mem_of_mem_take hk))
    rw [hd]; simp
  refine ⟨by simp only [picL, List.length_map, hks], fun i ha hb => ?_⟩
  simp only [picL, List.getElem_map, hks]
  have hi : i < (sortK L).length := by simpa [picL] using hb
  refine ⟨trivial, ?_⟩
  rw [fixAll_get fz _ L (hn.take n), take_any hn n i hi]
  by_cases hlt : i < n
  · simp [hlt]
  · simp [hlt]
theorem begun_all (fz : Bool) {n m : Nat} {A B : List (Ky × Ds)} (h : Begun fz n A B) (h1 : B.length ≤ n) (h2 : B.length ≤ m) : Begun fz m A B := by
  refine ⟨h.1, fun i ha hb => ⟨(h.2 i ha hb).1, ?_⟩⟩
  rw [(h.2 i ha hb).2, if_pos (by omega), if_pos (by omega)]
/-- the law's number of keys -/
def doneN (fz : Bool) (F : Nat) : Nat := (F - 2) / cost fz
/-- the law: how fixing with a given fuel ends, and what it leaves -/
theorem fixAt_law (fz : Bool) (F : Nat) (ext : Bool) {L : List (Ky × Ds)} (h : FixOk L) :
    (fixAt fz F ext L).2.2.1 = (if F = 0 then ext else false) ∧ Begun fz (doneN fz F) (picL (fixAt fz F ext L).2.2.2) (picL L) ∧
    ((fixAt fz F ext L).1 = true → L.length ≤ doneN fz F ∧ 2 ≤ F) ∧ ((fixAt fz F ext L).1 = false → F < 2 ∨ doneN fz F < L.length) := by
  have hc : 0 < cost fz := by unfold cost; split <;> omega
  have h0 : Begun fz 0 (picL L) (picL L) := ⟨rfl, fun i _ _ => ⟨rfl, by simp⟩⟩
  unfold fixAt doneN
  by_cases e0 : F = 0
  · subst e0
    simp only [if_true, Nat.zero_sub, Nat.zero_div]
    exact ⟨trivial, h0, fun h => (by cases h), fun _ => .inl (by omega)⟩
  · by_cases e1 : F = 1
    · subst e1
      simp only [if_true, if_false, Nat.one_ne_zero, show 1 - 2 = 0 from rfl, Nat.zero_div]
      exact ⟨trivial, h0, fun h => (by cases h), fun _ => .inl (by omega)⟩
    · rw [if_neg e0, if_neg e1, if_neg e0]
      obtain ⟨r1, r2⟩ := fixRun_eq fz (sortK L) (F - 2) L
      simp only [r1, r2]
      refine ⟨trivial, begun_fix fz _ h.ok, fun hd => ⟨?_, by omega⟩, fun hd => .inr ?_⟩
      · have := of_decide_eq_true hd
        rw [sortK_length] at this
        rw [Nat.le_div_iff_mul_le hc, Nat.mul_comm]; exact this
      · have := of_decide_eq_false hd
        rw [sortK_length] at this
        rw [Nat.div_lt_iff_lt_mul hc, Nat.mul_comm]; omega
theorem fixAt_ok (fz : Bool) (F : Nat) (ext : Bool) {L : List (Ky × Ds)} (h : FixOk L) : FixOk (fixAt fz F ext L).2.2.2 ∧ (fixAt fz F ext L).2.2.2.length = L.length := by
  have hfix : ∀ (K : List Ky) (f : Nat) (M : List (Ky × Ds)), FixOk M → (∀ k ∈ K, k ∈ M.map (·.1)) → FixOk (fixRun fz K f M).2.2 ∧ (fixRun fz K f M).2.2.length = M.length := by
    intro K
    induction K with
    | nil => intro f M hM _; exact ⟨hM, rfl⟩
    | cons k r ih =>
      intro f M hM hK
      unfold fixRun
      split
      · exact ⟨hM, rfl⟩
      · obtain ⟨d, hd⟩ := get_of_mem (hK k (by simp))
        obtain ⟨p, hp, rfl⟩ := List.mem_map.1 (hK k (by simp))
        have hks := keys_put M p.1 (fixD fz d) (by rw [hd]; simp)
        have hM' := hM.put fz hd (hM.ok.keys p hp)
        rw [hd, Option.getD_some]
        obtain ⟨q1, q2⟩ := ih (f - cost fz) _ hM' (fun k' hk' => by rw [hks]; exact hK k' (by simp [hk']))
        refine ⟨q1, q2.trans ?_⟩
        have := congrArg List.length hks
        simpa using this
  unfold fixAt
  split
  · exact ⟨h, rfl⟩
  · split
    · exact ⟨h, rfl⟩
    · exact hfix _ _ _ h (fun k hk => sortK_mem hk)

end Go.Proofs.YtoalboilghgalaaGreatDoor

/- The document's first example: plain facts. -/
namespace Go.Proofs.YtoalboilghgalaaGreatDoor
open Go.RowKit
open Go.Proofs.Dc (V Ds Ky)
attribute [local go_sem] run_store_float

def kA : Ky := ⟨⟨#[97]⟩, 0⟩
def kB : Ky := ⟨⟨#[98]⟩, 0⟩
def dA : Ds := ⟨vN, Dc.v0, Dc.v0, 2, 0, 2⟩
def dB : Ds := ⟨Dc.v0, Dc.vU, Dc.v0, 0, 0, 2⟩
def LA : List (Ky × Ds) := [(kA, ⟨vN, Dc.v0, Dc.v0, 2, 1, 2⟩)]
def LB : List (Ky × Ds) := [(kA, ⟨vN, Dc.v0, Dc.v0, 2, 1, 2⟩), (kB, ⟨Dc.v0, Dc.vU, Dc.vU, 0, 1, 2⟩)]
def LC : List (Ky × Ds) := [(kA, ⟨vN, Dc.v0, Dc.v0, 1, 1, 1⟩), (kB, ⟨Dc.v0, Dc.vU, Dc.vU, 0, 1, 1⟩)]
theorem wrongA : wrongD kA dA = 0 := by kernel_rfl
theorem wrongB : wrongD kB dB = 0 := by kernel_rfl
theorem defA : defL true [] kA dA = LA ∧ defB true [] kA dA = true := ⟨by kernel_rfl, by kernel_rfl⟩
theorem defBB : defL true LA kB dB = LB ∧ defB true LA kB dB = true := ⟨by kernel_rfl, by kernel_rfl⟩
theorem fixB : fixAt true 98 true LB = (true, 92, false, LC) := by kernel_rfl
theorem askC : askAt 92 LC = (.nilIface, 88) := by kernel_rfl
theorem numsA : Nums dA := ⟨by decide, by decide, by decide⟩
theorem numsB : Nums dB := ⟨by decide, by decide, by decide⟩
theorem okA : FixOk LA := by
  have := FixOk.nil.define (by decide) true numsA wrongA
  rw [defA.1] at this; exact this
theorem okB : FixOk LB := by
  have := okA.define (by decide) true numsB wrongB
  rw [defBB.1] at this; exact this
theorem okC : FixOk LC := by
  have := (fixAt_ok true 98 true okB).1
  rw [fixB] at this; exact this

end Go.Proofs.YtoalboilghgalaaGreatDoor

/- awake: the document's first example. -/
namespace Go.Proofs.YtoalboilghgalaaGreatDoor
open Go.RowKit
open Go.Proofs.Dc (V Ds Ky)
attribute [local go_sem] run_store_float

attribute [local go_sem] Oper.semAt_some
set_option maxRecDepth 100000 in
set_option maxHeartbeats 4000000 in
theorem awake_any (w : World) (hT : Tabs w) (htn : Tryz.lays197_ren.g 3 < w.heap.size ∧ Tryz.lays197_ren.g 4 < w.heap.size) : Calls Tryz.prog 29 #[] w fun e w' => e = .returned (.bool true) ∧ Below w.heap.size w w' := by
  have HA : Hid (∀ W {ov ob} (tp : Option Addr) (s : StX w.heap.size W w.heap.size ov ob tp 3 100 0 kO true []), Calls Tryz.prog 14 #[.pointer (some ⟨w.heap.size, 0, none⟩), .int .i64 1, .agg (kArr kA), .agg (dArr dA)] W fun e w' => Did (.tuple #[.bool true, .nilIface]) w.heap.size W w.heap.size ov ob 3 99 kO true LA e w') := Lib.hid fun W ov ob tp s => by
    have h := ddef_in s (by decide) kA dA numsA wrongA (by decide) FixOk.nil.nums FixOk.nil.ok
    rw [defA.1, defA.2] at h
    exact h
  have HB : Hid (∀ W {ov ob} (tp : Option Addr) (s : StX w.heap.size W w.heap.size ov ob tp 3 99 0 kO true LA), Calls Tryz.prog 14 #[.pointer (some ⟨w.heap.size, 0, none⟩), .int .i64 1, .agg (kArr kB), .agg (dArr dB)] W fun e w' => Did (.tuple #[.bool true, .nilIface]) w.heap.size W w.heap.size ov ob 3 98 kO true LB e w') := Lib.hid fun W ov ob tp s => by
    have h := ddef_in s (by decide) kB dB numsB wrongB (by decide) okA.nums okA.ok
    rw [defBB.1, defBB.2] at h
    exact h
  have HF : Hid (∀ W {ov ob} (tp : Option Addr) (s : StX w.heap.size W w.heap.size ov ob tp 3 98 0 kO true LB), Calls Tryz.prog 33 #[.pointer (some ⟨w.heap.size, 0, none⟩), .int .i64 1] W fun e w' => Did (.tuple #[.bool true, .nilIface]) w.heap.size W w.heap.size ov ob 3 92 kO false LC e w') := Lib.hid fun W ov ob tp s => by
    have h := freeze_any (F := 98) s (by decide) okB
    rw [fixB] at h
    exact h
  have HI : Hid (∀ W {ov ob} (tp : Option Addr) (s : StX w.heap.size W w.heap.size ov ob tp 3 92 0 kO false LC), Calls Tryz.prog 76 #[.pointer (some ⟨w.heap.size, 0, none⟩), .int .i64 1] W fun e w' => Did (.tuple #[.bool true, .nilIface]) w.heap.size W w.heap.size ov ob 3 88 kO false LC e w') := Lib.hid fun W ov ob tp s => by
    refine (isfrozen_any (F := 92) s (by decide) okC).mono ?_
    rw [askC]
    rintro e w' ⟨tp', h | h | h, h2, h3⟩
    · exact ⟨tp', h.2, h2, h3⟩
    · exact absurd h.1 (by simp)
    · exact absurd h.1 (by simp)
  go_enter Tryz.func29, Tryz.ntmps29
  go_wp2_with (first | (go_at_call 8; refine (new_any 3 100 _ (by decide) (by decide) (by decide)).mono ?_; rintro e w1 ⟨rfl, hH, hL⟩) | ((with_reducible show wpList _ _ _ (⟨some 3, .alloc 36, _, _, _, _⟩ :: _) _ _); refine wpList_alloc_blk rfl 36 rfl (vArr Dc.v0) zero36 ?_; intro w2 hV hL2 hs2; clear hs2; have hH2 := hH.next hL2; have hLL := more hL hL2) | ((with_reducible show wpList _ _ _ (⟨_, .store 36 (.tmp 3) _, _, _, _, _⟩ :: _) _ _); refine wpList_store_blk rfl 36 _ _ rfl _ (vArr vN) _ 36 rfl rfl hV Tryz.size36 rfl (vCells_one _) ?_; intro w3 hV3 hO3; have hH3 := hH2.only hO3 (by simpa using hH2.ne hV (by decide)); have hL3 := below_only hLL hO3 (by simp; exact hL.size)) | ((with_reducible show wpList _ _ _ (⟨_, .load 36 (.tmp 3), _, _, _, _⟩ :: _) _ _); first | refine wpList_load_blk rfl 36 _ rfl _ rfl (cur.blk 0 rfl) Tryz.row36 Tryz.size36 ?_ | refine wpList_load_blk rfl 36 _ rfl _ rfl hV3 Tryz.row36 Tryz.size36 ?_) | (go_at_call 74; refine (make0 w.heap.size w.heap.size 3 100 _ hL3.size (Nat.le_refl _) (hT.below hL3) htn (by decide) hH3).mono ?_; rintro e w4 ⟨ov, ob, rfl, sm, km⟩; have cur := (Bag.start sm).have (hV3.keeps km rfl) rfl (by simp); replace km := (Keeps.of_below hL3 (Nat.le_refl _)).trans km; clear sm) | (go_at_call 14; first | (refine (HA.out _ _ cur.s).mono ?_; rintro e w5 ⟨tp5, rfl, s9, k9⟩; replace cur := cur.go s9 k9; clear s9 k9 HA) | (refine (HB.out _ _ cur.s).mono ?_; rintro e w6 ⟨tp6, rfl, s9, k9⟩; replace cur := cur.go s9 k9; clear s9 k9 HB)) | (go_at_call 75; refine (fuel_any cur.s).mono ?_; rintro e wf ⟨rfl, rfl⟩) | (go_at_call 33; refine (HF.out _ _ cur.s).mono ?_; rintro e w7 ⟨tp7, rfl, s9, k9⟩; replace cur := cur.go s9 k9; clear s9 k9) | (go_at_call 76; refine (HI.out _ _ cur.s).mono ?_; rintro e w8 ⟨tp8, rfl, s9, k9⟩; replace cur := cur.go s9 k9; clear s9 k9))

  go_ret
  exact ⟨rfl, km.below.trans cur.k.below⟩

end Go.Proofs.YtoalboilghgalaaGreatDoor

/- heap.Shape. -/
namespace Go.Proofs.YtoalboilghgalaaGreatDoor
open Go.RowKit
open Go.Proofs.Dc (V Ds Ky)
attribute [local go_sem] run_store_float

attribute [local go_sem] Oper.semAt_some
/-- a shape -/
def sArr (c : Int) (p : V) (ext : Bool) (ps : Value) : Array Value := #[.int .i64 c, .int .i64 p.kind, .bool p.bool, .float .f64 p.num, .string p.str, .int .i64 p.id, .bool ext, ps]
theorem Blk.cellS {W : World} {b : Nat} {c : Int} {p : V} {ext : Bool} {ps : Value} (h : Blk W b (sArr c p ext ps) 73) : ∀ j, W.cell? ⟨b, j, none⟩ = #[.int .i64 c, .int .i64 p.kind, .bool p.bool, .float .f64 p.num, .string p.str, .int .i64 p.id, .bool ext, ps][j]? := h.cell
theorem Tryz.row73 : ∃ d, Tryz.prog.underlying 73 = some d ∧ d.isRow = true := ⟨_, Tryz.underlying73, rfl⟩
theorem Tryz.size73 : (Tryz.prog.info? 73).map (·.size) = some 8 := by kernel_rfl
def sZero : Array Value := sArr 0 Dc.v0 false (.slice none 0 0)
theorem zero73 (w : World) : (zeroValue 73).run Tryz.prog w = .ok (.agg sZero) w := by kernel_rfl
theorem sArr_one {c : Int} {p : V} {ext : Bool} {ps : Value} (h : ps.oneCell' = true) : (sArr c p ext ps).all (·.oneCell') = true := by simp [sArr, Value.oneCell'] at h ⊢; exact h
theorem range_part {W : World} {b : Nat} {C : Array Value} {t : TypeId} (h : Blk W b C t) (o n : Nat) {cs : List Value} (e : (C.extract o (o + n)).toList = cs) : W.rangeAt b o cs := e ▸ World.rangeAt_of_block h o n
theorem PropsAt.one {W : World} {v : Value} {L : List (Ky × Ds)} (h : PropsAt W v L) : v.oneCell' = true := by
  rcases h with ⟨_, rfl⟩ | ⟨_, _, _, rfl, _⟩ <;> rfl
theorem PropsAt.slc {W : World} {v : Value} {L : List (Ky × Ds)} (h : PropsAt W v L) : ∃ a n c, v = .slice a n c := by
  rcases h with ⟨_, rfl⟩ | ⟨_, _, _, rfl, _⟩ <;> exact ⟨_, _, _, rfl⟩
theorem PropsAt.keep {W W' : World} {v : Value} {L : List (Ky × Ds)} (h : PropsAt W v L) (hk : ∀ g C, Blk W g C 45 → Blk W' g C 45) : PropsAt W' v L := by
  rcases h with h | ⟨base, g, cap, h1, h2⟩
  · exact .inl h
  · exact .inr ⟨base, g, cap, h1, h2.keep (fun C hC => hk g C hC)⟩
theorem PropsAt.below {W W' : World} {v : Value} {L : List (Ky × Ds)} (h : PropsAt W v L) (hb : Below W.heap.size W W') : PropsAt W' v L := h.keep fun _ _ hC => hC.next hb
theorem PropsAt.keeps {n0 : Nat} {W W' : World} {v : Value} {L : List (Ky × Ds)} (h : PropsAt W v L) (hk : Keeps n0 W W') : PropsAt W' v L := h.keep fun _ _ hC => hC.keeps hk rfl
theorem PropsAt.free {W W' : World} {v : Value} {L : List (Ky × Ds)} {b : Nat} {C : Array Value} {t : TypeId} (h : PropsAt W v L) (hB : Blk W b C t) (ho : Only [b] W W') (ht : t ≠ 45) : PropsAt W' v L := h.keep fun _ _ hC => hC.only ho (by simpa using hC.ne hB (Ne.symm ht))
/-- the object as it lies there -/
def ShapePost (n0 : Nat) (w : World) (hb : Nat) (ov : Value) (ob : Nat) (tp : Option Addr) (cap fuel deep : Int) (kd : Kd) (ext : Bool) (L : List (Ky × Ds)) (e : Ending) (w' : World) : Prop :=
  ∃ pv, e = .returned (.tuple #[.agg (sArr kd.cls kd.proto ext pv), .int .i64 0]) ∧ PropsAt w' pv L ∧ StX n0 w' hb ov ob tp cap fuel deep kd ext L ∧ Keeps n0 w w'
set_option maxRecDepth 100000 in
set_option maxHeartbeats 4000000 in
theorem shape_any {n0 : Nat} {w : World} {hb : Nat} {ov : Value} {ob : Nat} {tp : Option Addr} {cap fuel deep : Int} {kd : Kd} {ext : Bool} {L : List (Ky × Ds)} (s : StX n0 w hb ov ob tp cap fuel deep kd ext L) (hk : KdOk kd) : Calls Tryz.prog 35 #[.pointer (some ⟨hb, 0, none⟩), .int .i64 1] w fun e w' => ShapePost n0 w hb ov ob tp cap fuel deep kd ext L e w' := by
  have cur := Bag.start s
  have hle0 : w.heap.size ≤ w.heap.size := Nat.le_refl _
  clear s
  have hsh := hk.shows
  go_enter Tryz.func35, Tryz.ntmps35
  go_wp2_with (first | ((with_reducible show wpList _ _ _ (⟨_, .alloc 73, _, _, _, _⟩ :: _) _ _); refine wpList_alloc_blk rfl 73 rfl (sZero) zero73 ?_; intro wa hB hL hs; replace cur := cur.push hL hB (Nat.le_refl _) rfl; clear hB hL hs) | (go_at_call 83; refine (has_one cur.s).mono ?_; rintro e wX ⟨rfl, rfl⟩) | (go_at_call 84; refine (at_any cur.s).mono ?_; rintro e wX ⟨rfl, rfl⟩))
  refine Ord.region (fun W => Blk W ob (oArr kd ext tp) 146) [] (by kernel_rfl) cur.drew.s.o ?_
  intro hS
  replace cur := cur.drew
  refine Ord.take (i := 0) (v := ?_) 18 rfl rfl (by kernel_rfl) (by kernel_rfl) (by kernel_rfl) (by kernel_rfl) (fun _ _ _ h => h) (by assumption) (Or.inl ⟨by rfl, ?_⟩) ?_
  rotate_left
  · (intro W hSW; first | (with_reducible rfl) | (go_simp; done) | (go_simp; with_reducible rfl))
  try simp only [List.setIfInBounds_toArray, List.set_cons_zero, List.set_cons_succ]
  refine Ord.take (i := 1) (v := ?_) 19 rfl rfl (by kernel_rfl) (by kernel_rfl) (by kernel_rfl) (by kernel_rfl) (fun _ _ _ h => h) (by assumption) (Or.inl ⟨by rfl, ?_⟩) ?_
  rotate_left
  · (intro W hSW; first | (with_reducible rfl) | (go_simp; done) | (go_simp; with_reducible rfl))
  try simp only [List.setIfInBounds_toArray, List.set_cons_zero, List.set_cons_succ]
  refine Ord.take (i := 2) (v := ?_) 20 rfl rfl (by kernel_rfl) (by kernel_rfl) (by kernel_rfl) (by kernel_rfl) (fun _ _ _ h => h) (by assumption) (Or.inl ⟨by rfl, ?_⟩) ?_
  rotate_left
  · (intro W hSW; first | (with_reducible rfl) | (go_simp; done) | (go_simp; with_reducible rfl))
  try simp only [List.setIfInBounds_toArray, List.set_cons_zero, List.set_cons_succ]
  refine Ord.take (i := 3) 21 rfl rfl (by kernel_rfl) (by kernel_rfl) (by kernel_rfl) (by kernel_rfl) (fun _ _ _ h => h) (by assumption) (yields_load1 (by rfl) 3 _ rfl ob 0 rfl (.int .i64 kd.cls) Tryz.isAgg3 (fun W hSW => (Blk.cell hSW 0))) ?_
  try simp only [List.setIfInBounds_toArray, List.set_cons_zero, List.set_cons_succ]
  refine Ord.take (i := 4) (v := ?_) 22 rfl rfl (by kernel_rfl) (by kernel_rfl) (by kernel_rfl) (by kernel_rfl) (fun _ _ _ h => h) (by assumption) (Or.inl ⟨by rfl, ?_⟩) ?_
  rotate_left
  · (intro W hSW; first | (with_reducible rfl) | (go_simp; done) | (go_simp; with_reducible rfl))
  try simp only [List.setIfInBounds_toArray, List.set_cons_zero, List.set_cons_succ]
  refine Ord.take (i := 5) (v := ?_) 23 rfl rfl (by kernel_rfl) (by kernel_rfl) (by kernel_rfl) (by kernel_rfl) (fun _ _ _ h => h) (by assumption) (Or.inl ⟨by rfl, ?_⟩) ?_
  rotate_left
  · (intro W hSW; first | (with_reducible rfl) | (go_simp; done) | (go_simp; with_reducible rfl))
  try simp only [List.setIfInBounds_toArray, List.set_cons_zero, List.set_cons_succ]
  refine Ord.take (i := 6) (v := ?_) 24 rfl rfl (by kernel_rfl) (by kernel_rfl) (by kernel_rfl) (by kernel_rfl) (fun _ _ _ h => h) (by assumption) (Or.inl ⟨by rfl, ?_⟩) ?_
  rotate_left
  · (intro W hSW; first | (with_reducible rfl) | (go_simp; done) | (go_simp; with_reducible rfl))
  try simp only [List.setIfInBounds_toArray, List.set_cons_zero, List.set_cons_succ]
  refine Ord.take (i := 7) 25 rfl rfl (by kernel_rfl) (by kernel_rfl) (by kernel_rfl) (by kernel_rfl) (fun _ _ _ h => h) (by assumption) (yieldsIf_load_mid (by rfl) 36 _ rfl ob 1 rfl ([.int .i64 kd.proto.kind, .bool kd.proto.bool, .float .f64 kd.proto.num, .string kd.proto.str, .int .i64 kd.proto.id]) _ (fun W hSW => range_part hSW 1 5 rfl) Tryz.underlying36 rfl Tryz.size36) ?_
  try simp only [List.setIfInBounds_toArray, List.set_cons_zero, List.set_cons_succ]
  refine Ord.take (i := 8) (v := ?_) 26 rfl rfl (by kernel_rfl) (by kernel_rfl) (by kernel_rfl) (by kernel_rfl) (fun _ _ _ h => h) (by assumption) (Or.inl ⟨by rfl, ?_⟩) ?_
  rotate_left
  · (intro W hSW; first | (with_reducible rfl) | (go_simp; done) | (go_simp; with_reducible rfl))
  try simp only [List.setIfInBounds_toArray, List.set_cons_zero, List.set_cons_succ]
  refine Ord.take (i := 9) (v := ?_) 27 rfl rfl (by kernel_rfl) (by kernel_rfl) (by kernel_rfl) (by kernel_rfl) (fun _ _ _ h => h) (by assumption) (Or.inl ⟨by rfl, ?_⟩) ?_
  rotate_left
  · (intro W hSW; first | (with_reducible rfl) | (go_simp; done) | (go_simp; with_reducible rfl))
  try simp only [List.setIfInBounds_toArray, List.set_cons_zero, List.set_cons_succ]
  refine Ord.take (i := 10) (v := ?_) 28 rfl rfl (by kernel_rfl) (by kernel_rfl) (by kernel_rfl) (by kernel_rfl) (fun _ _ _ h => h) (by assumption) (Or.inl ⟨by rfl, ?_⟩) ?_
  rotate_left
  · (intro W hSW; first | (with_reducible rfl) | (go_simp; done) | (go_simp; with_reducible rfl))
  try simp only [List.setIfInBounds_toArray, List.set_cons_zero, List.set_cons_succ]
  refine Ord.take (i := 11) 29 rfl rfl (by kernel_rfl) (by kernel_rfl) (by kernel_rfl) (by kernel_rfl) (fun _ _ _ h => h) (by assumption) (yields_load1 (by rfl) 4 _ rfl ob 6 rfl (.bool ext) Tryz.isAgg4 (fun W hSW => (Blk.cell hSW 6))) ?_
  try simp only [List.setIfInBounds_toArray, List.set_cons_zero, List.set_cons_succ]
  refine Ord.take (i := 12) (v := ?_) 30 rfl rfl (by kernel_rfl) (by kernel_rfl) (by kernel_rfl) (by kernel_rfl) (fun _ _ _ h => h) (by assumption) (Or.inl ⟨by rfl, ?_⟩) ?_
  rotate_left
  · (intro W hSW; first | (with_reducible rfl) | (go_simp; done) | (go_simp; with_reducible rfl))
  try simp only [List.setIfInBounds_toArray, List.set_cons_zero, List.set_cons_succ]
  refine Ord.take (i := 13) (v := ?_) 31 rfl rfl (by kernel_rfl) (by kernel_rfl) (by kernel_rfl) (by kernel_rfl) (fun _ _ _ h => h) (by assumption) (Or.inl ⟨by rfl, ?_⟩) ?_
  rotate_left
  · (intro W hSW; first | (with_reducible rfl) | (go_simp; done) | (go_simp; with_reducible rfl))
  try simp only [List.setIfInBounds_toArray, List.set_cons_zero, List.set_cons_succ]
  refine Ord.take (i := 14) (v := ?_) 32 rfl rfl (by kernel_rfl) (by kernel_rfl) (by kernel_rfl) (by kernel_rfl) (fun _ _ _ h => h) (by assumption) (Or.inl ⟨by rfl, ?_⟩) ?_
  rotate_left
  · (intro W hSW; first | (with_reducible rfl) | (go_simp; done) | (go_simp; with_reducible rfl))
  try simp only [List.setIfInBounds_toArray, List.set_cons_zero, List.set_cons_succ]
  refine Ord.two (i := 15) (j := 17) rfl rfl (by kernel_rfl) (by rfl) (by rfl) ?_ ?_
  · intro K HK
    go_simp
    go_at_call 85
    refine (pall_any cur.s).mono ?_
    rintro e w2 ⟨pv, rfl, hpv, hb2⟩
    obtain ⟨pp, pn, pc, rfl⟩ := hpv.slc
    replace cur := cur.next hb2
    refine HK.out _ _ ?_
    clear HK
    refine Ord.keep (S := fun W => Blk W ob (oArr kd ext tp) 146) ?_ ?_
    · exact cur.s.o
    clear hS
    intro hS
    try simp only [List.setIfInBounds_toArray, List.set_cons_zero, List.set_cons_succ]
    refine Ord.take (i := 16) (v := ?_) 34 rfl rfl (by kernel_rfl) (by kernel_rfl) (by kernel_rfl) (by kernel_rfl) (fun _ _ _ h => h) (by assumption) (Or.inl ⟨by rfl, ?_⟩) ?_
    rotate_left
    · (intro W hSW; first | (with_reducible rfl) | (go_simp; done) | (go_simp; with_reducible rfl))
    try simp only [List.setIfInBounds_toArray, List.set_cons_zero, List.set_cons_succ]
    refine Ord.step (i := 17) rfl (by kernel_rfl) (by rfl) ?_
    intro K HK
    refine alloc_op 73 rfl sZero zero73 ?_
    intro w3 b3 hB3 hb3 hL3
    have hle3 : w.heap.size ≤ b3 := by have := cur.k.size; omega
    replace cur := cur.push hL3 hB3 (Nat.le_of_eq hb3.symm) rfl
    try replace hpv := hpv.below hL3
    clear hB3 hb3 hL3
    refine HK.out _ _ ?_
    clear HK
    refine Ord.keep (S := fun W => Blk W ob (oArr kd ext tp) 146) ?_ ?_
    · exact cur.s.o
    clear hS
    intro hS
    try simp only [List.setIfInBounds_toArray, List.set_cons_zero, List.set_cons_succ]
    refine Ord.step (i := 18) rfl (by kernel_rfl) (by rfl) ?_
    intro K HK
    refine store_blk_op 73 (.tmp 7) (.tmp 34) rfl _ (sArr kd.cls kd.proto ext (.slice pp pn pc)) sZero 73 rfl rfl (cur.blk 0 rfl) Tryz.size73 rfl (sArr_one hpv.one) ?_
    intro w4 hB4 hO4
    replace hpv := hpv.free (cur.blk 0 rfl) hO4 (by decide)
    replace cur := cur.set 0 rfl hO4 hB4 hle3
    clear hB4 hO4
    refine HK.out _ _ ?_
    clear HK
    refine ⟨Ord.no_pend (S := fun W => Blk W ob (oArr kd ext tp) 146) (by kernel_rfl), ?_⟩
    try simp only [List.setIfInBounds_toArray, List.set_cons_zero, List.set_cons_succ]
    refine Ord.done (by kernel_rfl) ?_ _
    clear hS
    have hco := cur.s.o.cellO
    have hone := hpv.one
    have HPV := Lib.hid hpv
    clear hpv
    go_wp2_with (first | ((with_reducible show wpList _ _ _ (⟨_, .load 73 (.tmp 7), _, _, _, _⟩ :: _) _ _); refine wpList_load_blk rfl 73 _ rfl _ rfl (cur.blk 0 rfl) Tryz.row73 Tryz.size73 ?_) | ((with_reducible show wpList _ _ _ (⟨_, .store 73 (.tmp 4) _, _, _, _, _⟩ :: _) _ _); refine wpList_store_blk rfl 73 _ _ rfl _ (sArr kd.cls kd.proto ext (.slice pp pn pc)) _ 73 rfl rfl (cur.blk 1 rfl) Tryz.size73 rfl (sArr_one hone) ?_; intro we hB hO; replace HPV := Lib.hid (HPV.out.free (cur.blk 1 rfl) hO (by decide)); replace cur := cur.set 1 rfl hO hB hle0; clear hB hO))
    exact bodyPost_ret (results_cell_tmp Tryz.results35 rfl (cur.blk 1 rfl) Tryz.row73 Tryz.size73) rfl ⟨_, rfl, HPV.out, cur.s, cur.k⟩
  · intro K HK
    refine alloc_op 73 rfl sZero zero73 ?_
    intro w3 b3 hB3 hb3 hL3
    have hle3 : w.heap.size ≤ b3 := by have := cur.k.size; omega
    replace cur := cur.push hL3 hB3 (Nat.le_of_eq hb3.symm) rfl
    try replace hpv := hpv.below hL3
    clear hB3 hb3 hL3
    refine HK.out _ _ ?_
    clear HK
    refine Ord.keep (S := fun W => Blk W ob (oArr kd ext tp) 146) ?_ ?_
    · exact cur.s.o
    clear hS
    intro hS
    try simp only [List.setIfInBounds_toArray, List.set_cons_zero, List.set_cons_succ]
    refine Ord.step (i := 15) rfl (by kernel_rfl) (by rfl) ?_
    intro K HK
    go_simp
    go_at_call 85
    refine (pall_any cur.s).mono ?_
    rintro e w2 ⟨pv, rfl, hpv, hb2⟩
    obtain ⟨pp, pn, pc, rfl⟩ := hpv.slc
    replace cur := cur.next hb2
    refine HK.out _ _ ?_
    clear HK
    refine Ord.keep (S := fun W => Blk W ob (oArr kd ext tp) 146) ?_ ?_
    · exact cur.s.o
    clear hS
    intro hS
    try simp only [List.setIfInBounds_toArray, List.set_cons_zero, List.set_cons_succ]
    refine Ord.take (i := 16) (v := ?_) 34 rfl rfl (by kernel_rfl) (by kernel_rfl) (by kernel_rfl) (by kernel_rfl) (fun _ _ _ h => h) (by assumption) (Or.inl ⟨by rfl, ?_⟩) ?_
    rotate_left
    · (intro W hSW; first | (with_reducible rfl) | (go_simp; done) | (go_simp; with_reducible rfl))
    try simp only [List.setIfInBounds_toArray, List.set_cons_zero, List.set_cons_succ]
    refine Ord.step (i := 18) rfl (by kernel_rfl) (by rfl) ?_
    intro K HK
    refine store_blk_op 73 (.tmp 7) (.tmp 34) rfl _ (sArr kd.cls kd.proto ext (.slice pp pn pc)) sZero 73 rfl rfl (cur.blk 0 rfl) Tryz.size73 rfl (sArr_one hpv.one) ?_
    intro w4 hB4 hO4
    replace hpv := hpv.free (cur.blk 0 rfl) hO4 (by decide)
    replace cur := cur.set 0 rfl hO4 hB4 hle3
    clear hB4 hO4
    refine HK.out _ _ ?_
    clear HK
    refine ⟨Ord.no_pend (S := fun W => Blk W ob (oArr kd ext tp) 146) (by kernel_rfl), ?_⟩
    try simp only [List.setIfInBounds_toArray, List.set_cons_zero, List.set_cons_succ]
    refine Ord.done (by kernel_rfl) ?_ _
    clear hS
    have hco := cur.s.o.cellO
    have hone := hpv.one
    have HPV := Lib.hid hpv
    clear hpv
    go_wp2_with (first | ((with_reducible show wpList _ _ _ (⟨_, .load 73 (.tmp 7), _, _, _, _⟩ :: _) _ _); refine wpList_load_blk rfl 73 _ rfl _ rfl (cur.blk 0 rfl) Tryz.row73 Tryz.size73 ?_) | ((with_reducible show wpList _ _ _ (⟨_, .store 73 (.tmp 4) _, _, _, _, _⟩ :: _) _ _); refine wpList_store_blk rfl 73 _ _ rfl _ (sArr kd.cls kd.proto ext (.slice pp pn pc)) _ 73 rfl rfl (cur.blk 1 rfl) Tryz.size73 rfl (sArr_one hone) ?_; intro we hB hO; replace HPV := Lib.hid (HPV.out.free (cur.blk 1 rfl) hO (by decide)); replace cur := cur.set 1 rfl hO hB hle0; clear hB hO))
    exact bodyPost_ret (results_cell_tmp Tryz.results35 rfl (cur.blk 1 rfl) Tryz.row73 Tryz.size73) rfl ⟨_, rfl, HPV.out, cur.s, cur.k⟩

end Go.Proofs.YtoalboilghgalaaGreatDoor
