/- Lemmas for this claim, in parts: Keys2. -/
import Derived.Test.YtoalboilghgalaaGreatDoorB01
import Derived.Test.YtoalboilghgalaaGreatDoorB32
import Derived.Test.YtoalboilghgalaaGreatDoorB33
set_option maxRecDepth 100000
set_option maxHeartbeats 4000000
set_option linter.unusedVariables false
set_option linter.unusedSimpArgs false
/- The keys of an object: from the properties to the door. -/
namespace Go.Proofs.YtoalboilghgalaaGreatDoor
open Go.RowKit
open Go.Proofs.Dc (V Ds Ky)
attribute [local go_sem] run_store_float

attribute [local go_sem] Oper.semAt_some
/-- the keys of a list of properties, in Order's order -/
def sortK (L : List (Ky × Ds)) : List Ky := Srt.stable ltK (L.map (·.1))
def LGood (L : List (Ky × Ds)) : Prop := ∀ p ∈ L, kgood p.1 = true
theorem KeysAt.weak {W : World} {b b' : Nat} {v : Value} {l : List Ky} (h : KeysAt W b v l) (hb : b' ≤ b) : KeysAt W b' v l := by
  rcases h with h | ⟨g, c, r, h1, h2, h3⟩
  · exact .inl h
  · exact .inr ⟨g, c, r, h1, Nat.le_trans hb h2, h3⟩
theorem KeysAt.keeps {n0 : Nat} {W W' : World} {b : Nat} {v : Value} {l : List Ky} (h : KeysAt W b v l) (hk : Keeps n0 W W') : KeysAt W' b v l := by
  rcases h with h | ⟨g, c, r, h1, h2, h3⟩
  · exact .inl h
  · exact .inr ⟨g, c, r, h1, h2, h3.keeps hk rfl⟩
/-- the properties of an object in a row of their own, or nil -/
def PropsAt (W : World) (v : Value) (L : List (Ky × Ds)) : Prop := (L = [] ∧ v = .slice none 0 0) ∨ ∃ base g cap, v = .slice (some ⟨g, 0, none⟩) L.length cap ∧ RowAt W base 45 20 g L.length cap (pAll L)
theorem pkeys_any {n0 : Nat} {w : World} {hb : Nat} {ov : Value} {ob : Nat} {tp : Option Addr} {cap fuel deep : Int} {kd : Kd} {ext : Bool} {L : List (Ky × Ds)} (s : StX n0 w hb ov ob tp cap fuel deep kd ext L) (hg : LGood L) : Calls Tryz.prog 243 #[.pointer (some ⟨ob, 9, none⟩)] w fun e w' => ∃ v, e = .returned v ∧ KeysAt w' w.heap.size v (sortK L) ∧ Below w.heap.size w w' := by
  have hco := s.o.cellO
  have HG := Lib.hid hg
  rcases s.tab with ⟨rfl, rfl⟩ | ⟨tb, mb, ev, rfl, h1, h2, ht, hLn⟩
  · go_enter Tryz.func243, Tryz.ntmps243
    go_wp2
    go_ret
    exact ⟨_, rfl, .inl ⟨rfl, rfl⟩, Below.refl _ _⟩
  · have hTT := s.tabs
    go_enter Tryz.func243, Tryz.ntmps243
    go_wp2_with (go_at_call 252; refine (keys_walk n0 tb mb ev L _ ht hTT HG.out ht.len).mono ?_; rintro e w1 ⟨v, rfl, hk, hb⟩)
    go_ret
    exact ⟨v, rfl, hk, hb⟩

theorem pall_any {n0 : Nat} {w : World} {hb : Nat} {ov : Value} {ob : Nat} {tp : Option Addr} {cap fuel deep : Int} {kd : Kd} {ext : Bool} {L : List (Ky × Ds)} (s : StX n0 w hb ov ob tp cap fuel deep kd ext L) : Calls Tryz.prog 85 #[.pointer (some ⟨ob, 9, none⟩)] w fun e w' => ∃ v, e = .returned v ∧ PropsAt w' v L ∧ Below w.heap.size w w' := by
  have hco := s.o.cellO
  rcases s.tab with ⟨rfl, rfl⟩ | ⟨tb, mb, ev, rfl, h1, h2, ht, hLn⟩
  · go_enter Tryz.func85, Tryz.ntmps85
    go_wp2
    go_ret
    exact ⟨_, rfl, .inl ⟨rfl, rfl⟩, Below.refl _ _⟩
  · go_enter Tryz.func85, Tryz.ntmps85
    go_wp2_with (go_at_call 127; refine (props_any n0 tb mb ev L _ ht).mono ?_; rintro e w1 ⟨g, cp, rfl, hr, hb⟩)
    go_ret
    exact ⟨_, rfl, .inr ⟨_, g, cp, rfl, hr⟩, hb⟩

theorem hkeys_any {n0 : Nat} {w : World} {hb : Nat} {ov : Value} {ob : Nat} {tp : Option Addr} {cap fuel deep : Int} {kd : Kd} {ext : Bool} {L : List (Ky × Ds)} (s : StX n0 w hb ov ob tp cap fuel deep kd ext L) (hg : LGood L) : Calls Tryz.prog 228 #[.pointer (some ⟨hb, 0, none⟩), .int .i64 1] w fun e w' => ∃ v, e = .returned v ∧ KeysAt w' w.heap.size v (sortK L) ∧ Below w.heap.size w w' := by
  have HG := Lib.hid hg
  go_enter Tryz.func228, Tryz.ntmps228
  go_wp2_with (first | (go_at_call 84; refine (at_any s).mono ?_; rintro e wX ⟨rfl, rfl⟩) | (go_at_call 243; refine (pkeys_any s HG.out).mono ?_; rintro e w1 ⟨v, rfl, hk, hb⟩))
  go_ret
  exact ⟨v, rfl, hk, hb⟩

theorem ordkeys_any {n0 : Nat} {w : World} {hb : Nat} {ov : Value} {ob : Nat} {tp : Option Addr} {cap fuel deep : Int} {kd : Kd} {ext : Bool} {L : List (Ky × Ds)} (s : StX n0 w hb ov ob tp cap fuel deep kd ext L) (hg : LGood L) : Calls Tryz.prog 277 #[.agg #[], .pointer (some ⟨hb, 0, none⟩), .int .i64 1] w fun e w' => ∃ v, e = .returned (.tuple #[v, .nilIface]) ∧ KeysAt w' 0 v (sortK L) ∧ StX n0 w' hb ov ob tp cap fuel deep kd ext L ∧ Keeps n0 w w' := by
  have HG := Lib.hid hg
  have cur := Bag.start s
  clear s
  go_enter Tryz.func277, Tryz.ntmps277
  go_wp2_with (first | ((with_reducible show wpList _ _ _ (⟨_, .box 105 _, _, _, _, _⟩ :: _) _ _); refine wpList_box_blk rfl 105 _ rfl (#[]) rfl ?_; intro wz hB hL hs; replace cur := cur.push hL hB (Nat.le_refl _) rfl; clear hB hL hs) | (go_at_call 228; refine (hkeys_any cur.s HG.out).mono ?_; rintro e wY ⟨v, rfl, hk, hb9⟩; replace cur := cur.next hb9))
  go_ret2
  exact ⟨v, rfl, hk.weak (Nat.zero_le _), cur.s, cur.k⟩

theorem ckeys_any {n0 : Nat} {w : World} {hb : Nat} {ov : Value} {ob : Nat} {tp : Option Addr} {cap fuel deep : Int} {ext : Bool} {L : List (Ky × Ds)} {bh bi : Nat} (hg : LGood L) (cur : Bag n0 w w hb ov ob tp cap fuel deep kO ext L [(bi, #[.int .i64 1], 3), (bh, #[.pointer (some ⟨hb, 0, none⟩)], 25)]) : Calls Tryz.prog 113 #[.pointer (some ⟨bh, 0, none⟩), .pointer (some ⟨bi, 0, none⟩)] w (Gives (α := Value) (fun x => x) (fun x W => KeysAt W 0 x (sortK L)) n0 w hb ov ob cap fuel deep kO ext L) := by
  have hm := mOwnPropertyKeys
  have hmv : kO.mv = .iface 105 (.agg #[]) := rfl
  go_enter Tryz.func113, Tryz.ntmps113
  go_wp2
  refine Ord.region (fun W => Has W ([(bi, #[.int .i64 1], 3), (bh, #[.pointer (some ⟨hb, 0, none⟩)], 25)])) [6, 7, 8, 9] (by kernel_rfl) (cur.drew.has (by simp)) ?_
  intro hS
  replace cur := cur.drew
  refine Ord.tk 0 4 rfl rfl (yields_load1 (by rfl) 25 _ rfl bh 0 rfl (.pointer (some ⟨hb, 0, none⟩)) Tryz.isAgg25 (fun W hSW => (hSW.blk 1 rfl).cell 0)) ?_
  refine Ord.tk 1 5 rfl rfl (yields_load1 (by rfl) 3 _ rfl bi 0 rfl (.int .i64 1) Tryz.isAgg3 (fun W hSW => (hSW.blk 0 rfl).cell 0)) ?_
  refine Ord.tk 3 7 rfl rfl (yields_load1 (by rfl) 25 _ rfl bh 0 rfl (.pointer (some ⟨hb, 0, none⟩)) Tryz.isAgg25 (fun W hSW => (hSW.blk 1 rfl).cell 0)) ?_
  refine Ord.tk 4 8 rfl rfl (yields_load1 (by rfl) 3 _ rfl bi 0 rfl (.int .i64 1) Tryz.isAgg3 (fun W hSW => (hSW.blk 0 rfl).cell 0)) ?_
  refine Ord.step (i := 2) rfl (by kernel_rfl) (by rfl) ?_
  intro K HK
  go_simp
  go_at_call 108
  refine (does_any cur.s).mono ?_
  rintro e wX ⟨rfl, rfl⟩
  refine HK.out _ _ ?_
  clear HK
  refine Ord.kp ?_ ?_
  · exact cur.has (by simp)
  clear hS
  intro hS
  try simp only [List.setIfInBounds_toArray, List.set_cons_zero, List.set_cons_succ]
  refine Ord.step (i := 5) rfl (by kernel_rfl) (by rfl) ?_
  intro K HK
  go_simp
  go_at_call 277
  refine (ordkeys_any cur.s hg).mono ?_
  rintro e wY ⟨v, rfl, hk, s9, k9⟩
  replace cur := cur.go s9 k9
  refine HK.out _ _ ?_
  clear HK
  refine ⟨Ord.np (by kernel_rfl), ?_⟩
  try simp only [List.setIfInBounds_toArray, List.set_cons_zero, List.set_cons_succ]
  refine Ord.tf 6 10 rfl rfl ?_
  refine Ord.tf 7 11 rfl rfl ?_
  refine Ord.tf 8 2 rfl rfl ?_
  refine Ord.tf 9 3 rfl rfl ?_
  refine Ord.done (by kernel_rfl) ?_ _
  clear hS
  go_wp2
  go_ret2
  exact ⟨v, tp, rfl, cur.s, cur.k, hk⟩


theorem ekeys_out {n0 : Nat} {w : World} {hb : Nat} {ov : Value} {ob : Nat} {tp : Option Addr} {cap : Int} {ext : Bool} {L : List (Ky × Ds)} (s : StX n0 w hb ov ob tp cap 0 0 kO ext L) : Calls Tryz.prog 63 #[.pointer (some ⟨hb, 0, none⟩), .int .i64 1] w fun e w' => Did (.tuple #[.slice none 0 0, errV 1]) n0 w hb ov ob cap 0 kO ext L e w' := by
  have cur := Bag.start s
  clear s
  go_enter Tryz.func63, Tryz.ntmps63
  go_wp2_with (first | ((with_reducible show wpList _ _ _ (⟨_, .box 25 _, _, _, _, _⟩ :: _) _ _); refine wpList_box1 rfl 25 _ rfl (.pointer (some ⟨hb, 0, none⟩)) rfl rfl ?_; intro wa hB hL hs; replace cur := cur.push hL hB (Nat.le_refl _) rfl; clear hB hL hs) | ((with_reducible show wpList _ _ _ (⟨_, .box 3 _, _, _, _, _⟩ :: _) _ _); refine wpList_box1 rfl 3 _ rfl (.int .i64 1) rfl rfl ?_; intro wb hB hL hs; replace cur := cur.push hL hB (Nat.le_refl _) rfl; clear hB hL hs) | ((with_reducible show wpList _ _ _ (⟨_, .load 25 (.tmp 2), _, _, _, _⟩ :: _) _ _); refine wpList_load1 (by rfl) 25 _ rfl _ 0 rfl (.pointer (some ⟨hb, 0, none⟩)) (Tryz.isAgg25 _) ((cur.blk 1 rfl).cell 0) ?_) | (go_at_call 112; refine (wkeys_out cur.s _).mono ?_; rintro e wX ⟨rfl, rfl⟩))
  go_ret2
  exact ⟨tp, rfl, cur.s, cur.k⟩

theorem ekeys_in {n0 : Nat} {w : World} {hb : Nat} {ov : Value} {ob : Nat} {tp : Option Addr} {cap fuel : Int} {ext : Bool} {L : List (Ky × Ds)} (s : StX n0 w hb ov ob tp cap fuel 0 kO ext L) (hf : 0 < fuel ∧ fuel ≤ 9223372036854775807) (hg : LGood L) : Calls Tryz.prog 63 #[.pointer (some ⟨hb, 0, none⟩), .int .i64 1] w fun e w' => ∃ v tp, e = .returned (.tuple #[v, .nilIface]) ∧ KeysAt w' 0 v (sortK L) ∧ StX n0 w' hb ov ob tp cap (fuel - 1) 0 kO ext L ∧ Keeps n0 w w' := by
  have HG := Lib.hid hg
  have HF := Lib.hid hf
  have cur := Bag.start s
  clear s hf hg
  go_enter Tryz.func63, Tryz.ntmps63
  go_wp2_with (first | ((with_reducible show wpList _ _ _ (⟨_, .box 25 _, _, _, _, _⟩ :: _) _ _); refine wpList_box1 rfl 25 _ rfl (.pointer (some ⟨hb, 0, none⟩)) rfl rfl ?_; intro wa hB hL hs; replace cur := cur.push hL hB (Nat.le_refl _) rfl; clear hB hL hs) | ((with_reducible show wpList _ _ _ (⟨_, .box 3 _, _, _, _, _⟩ :: _) _ _); refine wpList_box1 rfl 3 _ rfl (.int .i64 1) rfl rfl ?_; intro wb hB hL hs; replace cur := cur.push hL hB (Nat.le_refl _) rfl; clear hB hL hs) | ((with_reducible show wpList _ _ _ (⟨_, .load 25 (.tmp 2), _, _, _, _⟩ :: _) _ _); refine wpList_load1 (by rfl) 25 _ rfl _ 0 rfl (.pointer (some ⟨hb, 0, none⟩)) (Tryz.isAgg25 _) ((cur.blk 1 rfl).cell 0) ?_) | (go_at_call 112; refine (wkeys_in cur.s HF.out 113 _ (enters_of Tryz.func113 (by kernel_rfl) rfl) (fun x W => KeysAt W 0 x (sortK L)) (fun _ _ _ h hk => h.keeps hk) (fun W1 s1 k1 => ckeys_any HG.out (cur.go s1 k1).again)).mono ?_; rintro e wX ⟨x, tp', rfl, s9, k9, hk⟩; replace cur := cur.go s9 k9))
  go_ret2
  exact ⟨x, tp', rfl, hk, cur.s, cur.k⟩

theorem dkeys_out {n0 : Nat} {w : World} {hb : Nat} {ov : Value} {ob : Nat} {tp : Option Addr} {cap : Int} {ext : Bool} {L : List (Ky × Ds)} (s : StX n0 w hb ov ob tp cap 0 0 kO ext L) : Calls Tryz.prog 20 #[.pointer (some ⟨hb, 0, none⟩), .int .i64 1] w fun e w' => Did (.tuple #[.slice none 0 0, errV 1]) n0 w hb ov ob cap 0 kO ext L e w' := by
  have cur := Bag.start s
  clear s
  go_enter Tryz.func20, Tryz.ntmps20
  go_wp2_with (first | (go_at_call 55; refine (wrong_none cur.s).mono ?_; rintro e wX ⟨rfl, hb'⟩; replace cur := cur.next hb'; clear hb') | (go_at_call 63; refine (ekeys_out cur.s).mono ?_; rintro e wX ⟨tp', rfl, s9, k9⟩; replace cur := cur.go s9 k9))
  go_ret2
  exact ⟨tp', rfl, cur.s, cur.k⟩

theorem dkeys_in {n0 : Nat} {w : World} {hb : Nat} {ov : Value} {ob : Nat} {tp : Option Addr} {cap fuel : Int} {ext : Bool} {L : List (Ky × Ds)} (s : StX n0 w hb ov ob tp cap fuel 0 kO ext L) (hf : 0 < fuel ∧ fuel ≤ 9223372036854775807) (hg : LGood L) : Calls Tryz.prog 20 #[.pointer (some ⟨hb, 0, none⟩), .int .i64 1] w fun e w' => ∃ v tp, e = .returned (.tuple #[v, .nilIface]) ∧ KeysAt w' 0 v (sortK L) ∧ StX n0 w' hb ov ob tp cap (fuel - 1) 0 kO ext L ∧ Keeps n0 w w' := by
  have HG := Lib.hid hg
  have HF := Lib.hid hf
  have cur := Bag.start s
  clear s hf hg
  go_enter Tryz.func20, Tryz.ntmps20
  go_wp2_with (first | (go_at_call 55; refine (wrong_none cur.s).mono ?_; rintro e wX ⟨rfl, hb'⟩; replace cur := cur.next hb'; clear hb') | (go_at_call 63; refine (ekeys_in cur.s HF.out HG.out).mono ?_; rintro e wX ⟨x, tp', rfl, hk, s9, k9⟩; replace cur := cur.go s9 k9))
  go_ret2
  exact ⟨x, tp', rfl, hk, cur.s, cur.k⟩


end Go.Proofs.YtoalboilghgalaaGreatDoor
