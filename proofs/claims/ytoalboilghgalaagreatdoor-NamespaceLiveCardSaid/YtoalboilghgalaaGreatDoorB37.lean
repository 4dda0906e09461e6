/- Lemmas for this claim, in parts: Nskeys2, Nsown. -/
import Derived.Test.YtoalboilghgalaaGreatDoorB01
import Derived.Test.YtoalboilghgalaaGreatDoorB35
import Derived.Test.YtoalboilghgalaaGreatDoorB36
set_option maxRecDepth 100000
set_option maxHeartbeats 4000000
set_option linter.unusedVariables false
set_option linter.unusedSimpArgs false
/- A namespace: EnterOwnPropertyKeys. -/
namespace Go.Proofs.YtoalboilghgalaaGreatDoor
open Go.RowKit
open Go.Proofs.Dc (V Ds Ky)
attribute [local go_sem] run_store_float

theorem xckeys {n0 : Nat} {w : World} {hb : Nat} {ov : Value} {ob : Nat} {tp : Option Addr} {cap fuel deep : Int} {xb : Nat} {ext : Bool} {L : List (Ky × Ds)} {bh bi : Nat} {g xc : Nat} {a : Option Addr} {l : List Ex} (hX : XAt w xb g xc a l) (hg : LGood L) (hlen : L.length ≤ 1000000) (cur : Bag n0 w w hb ov ob tp cap fuel deep (kN xb) ext L [(bi, #[.int .i64 1], 3), (bh, #[.pointer (some ⟨hb, 0, none⟩)], 25)]) : Calls Tryz.prog 113 #[.pointer (some ⟨bh, 0, none⟩), .pointer (some ⟨bi, 0, none⟩)] w (GivesE (α := Value) (fun x => x) (fun x f e l2 W => KeysAt W 0 x (nsKeys l L) ∧ f = fuel ∧ e = ext ∧ l2 = L) n0 w hb ov ob cap deep (kN xb)) := by
  have hm := xmOwnPropertyKeys xb
  have hmv : (kN xb).mv = .iface 157 (.pointer (some ⟨xb, 0, none⟩)) := rfl
  go_enter Tryz.func113, Tryz.ntmps113
  go_wp2_with fail
  refine Ord.region (fun W => Has W ([(bi, #[.int .i64 1], 3), (bh, #[.pointer (some ⟨hb, 0, none⟩)], 25)])) [6, 7, 8, 9] (by kernel_rfl) (cur.drew.has (by simp)) ?_
  intro hS
  replace cur := cur.drew
  refine Ord.tk 0 4 rfl rfl (yields_load1 (by rfl) 25 _ rfl bh 0 rfl (.pointer (some ⟨hb, 0, none⟩)) Tryz.isAgg25 (fun W hSW => (hSW.blk 1 rfl).cell 0)) ?_
  refine Ord.tk 1 5 rfl rfl (yields_load1 (by rfl) 3 _ rfl bi 0 rfl (.int .i64 1) Tryz.isAgg3 (fun W hSW => (hSW.blk 0 rfl).cell 0)) ?_
  refine Ord.tk 3 7 rfl rfl (yields_load1 (by rfl) 25 _ rfl bh 0 rfl (.pointer (some ⟨hb, 0, none⟩)) Tryz.isAgg25 (fun W hSW => (hSW.blk 1 rfl).cell 0)) ?_
  refine Ord.tk 4 8 rfl rfl (yields_load1 (by rfl) 3 _ rfl bi 0 rfl (.int .i64 1) Tryz.isAgg3 (fun W hSW => (hSW.blk 0 rfl).cell 0)) ?_
  refine Ord.step (i := 2) rfl (by kernel_rfl) (by rfl) ?_
  intro K HK
  go_simp
  go_at_call 108
  refine (does_any cur.s).mono ?_
  rintro e wX ⟨rfl, rfl⟩
  refine HK.out _ _ ?_
  clear HK
  refine Ord.kp ?_ ?_
  · exact cur.has (by simp)
  clear hS
  intro hS
  try simp only [List.setIfInBounds_toArray, List.set_cons_zero, List.set_cons_succ]
  refine Ord.step (i := 5) rfl (by kernel_rfl) (by rfl) ?_
  intro K HK
  go_simp
  go_at_call 285
  refine (nkeys_any cur.s (hX.keeps cur.k) hg hlen).mono ?_
  rintro e wY ⟨v, rfl, hk, hbY⟩
  replace cur := cur.next hbY
  refine HK.out _ _ ?_
  clear HK
  refine ⟨Ord.np (by kernel_rfl), ?_⟩
  try simp only [List.setIfInBounds_toArray, List.set_cons_zero, List.set_cons_succ]
  refine Ord.tf 6 10 rfl rfl ?_
  refine Ord.tf 7 11 rfl rfl ?_
  refine Ord.tf 8 2 rfl rfl ?_
  refine Ord.tf 9 3 rfl rfl ?_
  refine Ord.done (by kernel_rfl) ?_ _
  clear hS
  go_wp2
  go_ret2
  exact ⟨v, tp, fuel, ext, L, rfl, cur.s, cur.k, hk, rfl, rfl, rfl⟩


theorem xekeys {n0 : Nat} {w : World} {hb : Nat} {ov : Value} {ob : Nat} {tp : Option Addr} {cap fuel deep : Int} {xb : Nat} {ext : Bool} {L : List (Ky × Ds)} (s : StX n0 w hb ov ob tp cap fuel deep (kN xb) ext L) (hf : 0 < fuel ∧ fuel ≤ 9223372036854775807) (hd : 0 ≤ deep ∧ deep < 10) {g xc : Nat} {a : Option Addr} {l : List Ex} (hX : XAt w xb g xc a l) (hg : LGood L) (hlen : L.length ≤ 1000000) : Calls Tryz.prog 63 #[.pointer (some ⟨hb, 0, none⟩), .int .i64 1] w fun e w' => ∃ v tp, e = .returned (.tuple #[v, .nilIface]) ∧ KeysAt w' 0 v (nsKeys l L) ∧ StX n0 w' hb ov ob tp cap (fuel - 1) deep (kN xb) ext L ∧ Keeps n0 w w' := by
  have HG := Lib.hid hg
  have HL := Lib.hid hlen
  have cur := Bag.start s
  clear s hg hlen
  go_enter Tryz.func63, Tryz.ntmps63
  go_wp2_with (first | ((with_reducible show wpList _ _ _ (⟨_, .box 25 _, _, _, _, _⟩ :: _) _ _); refine wpList_box1 rfl 25 _ rfl (.pointer (some ⟨hb, 0, none⟩)) rfl rfl ?_; intro wa hB hL hs; replace cur := cur.push hL hB (Nat.le_refl _) rfl; clear hB hL hs) | ((with_reducible show wpList _ _ _ (⟨_, .box 3 _, _, _, _, _⟩ :: _) _ _); refine wpList_box1 rfl 3 _ rfl (.int .i64 1) rfl rfl ?_; intro wb hB hL hs; replace cur := cur.push hL hB (Nat.le_refl _) rfl; clear hB hL hs) | ((with_reducible show wpList _ _ _ (⟨_, .load 25 (.tmp 2), _, _, _, _⟩ :: _) _ _); refine wpList_load1 (by rfl) 25 _ rfl _ 0 rfl (.pointer (some ⟨hb, 0, none⟩)) (Tryz.isAgg25 _) ((cur.blk 1 rfl).cell 0) ?_) | (go_at_call 112; refine (wkeys_g cur.s hf hd 113 _ (enters_of Tryz.func113 (by kernel_rfl) rfl) (fun x f e l2 W => KeysAt W 0 x (nsKeys l L) ∧ f = fuel - 1 ∧ e = ext ∧ l2 = L) (fun _ _ _ _ _ _ h hk => ⟨h.1.keeps hk, h.2⟩) (fun W1 s1 k1 => xckeys (hX.keeps (cur.k.trans k1)) HG.out HL.out (cur.go s1 k1).again)).mono ?_; rintro e wX ⟨x, tp', fl, ex, L2, rfl, s9, k9, hk, rfl, rfl, rfl⟩; replace cur := cur.go s9 k9))
  go_ret2
  exact ⟨x, tp', rfl, hk, cur.s, cur.k⟩


end Go.Proofs.YtoalboilghgalaaGreatDoor

/- A namespace's GetOwnProperty of a string, its closure, EnterGetOwnProperty. -/
namespace Go.Proofs.YtoalboilghgalaaGreatDoor
open Go.RowKit
open Go.Proofs.Dc (V Ds Ky)
attribute [local go_sem] run_store_float

def vSelf (o : Int) : V := ⟨7, false, 0, ByteArray.empty, o⟩
theorem self_any (o : Int) (w : World) : Calls Tryz.prog 288 #[.int .i64 o] w fun e w' => e = .returned (.agg (vArr (vSelf o))) ∧ Below w.heap.size w w' := by
  go_enter Tryz.func288, Tryz.ntmps288
  go_wp2_with (first | ((with_reducible show wpList _ _ _ (⟨_, .alloc 36, _, _, _, _⟩ :: _) _ _); refine wpList_alloc_blk rfl 36 rfl (vArr Dc.v0) zero36 ?_; intro w1 hR hL1 hs1; clear hs1) | ((with_reducible show wpList _ _ _ (⟨_, .store 36 _ _, _, _, _, _⟩ :: _) _ _); refine wpList_store_blk rfl 36 _ _ rfl _ (vArr (vSelf o)) _ 36 rfl rfl hR Tryz.size36 rfl (vArr_one _) ?_; intro wC hBC hOC))
  exact bodyPost_ret (results_cell Tryz.results288 rfl hBC Tryz.row36 Tryz.size36) rfl ⟨rfl, below_only hL1 hOC (by simp)⟩
/-- how an export is told -/
def xDs (v : V) : Ds := ⟨v, Dc.v0, Dc.v0, 2, 2, 1⟩
/-- what is told, or thrown -/
def DidT3 (n0 : Nat) (w : World) (hb : Nat) (ov : Value) (ob : Nat) (cap fuel deep : Int) (kd : Kd) (ext : Bool) (L : List (Ky × Ds)) (e : Ending) (w' : World) : Prop :=
  ∃ b tp, e = .returned (.tuple #[.agg (dArr Dc.d0), .bool false, errT b]) ∧ n0 ≤ b ∧ Blk w' b thrArr 206 ∧ StX n0 w' hb ov ob tp cap fuel deep kd ext L ∧ Keeps n0 w w'
theorem nown_none {n0 : Nat} {w : World} {hb : Nat} {ov : Value} {ob : Nat} {tp : Option Addr} {cap fuel deep : Int} {xb : Nat} {ext : Bool} {L : List (Ky × Ds)} (s : StX n0 w hb ov ob tp cap fuel deep (kN xb) ext L) (hf : 0 < fuel ∧ fuel ≤ 9223372036854775807) (hd : 0 ≤ deep ∧ deep < 10) {g xc : Nat} {a : Option Addr} {l : List Ex} (hX : XAt w xb g xc a l) (q : ByteArray) (hq : q.size + 2 ≤ 1099511627776) (hI : xIdx l q = none) : Calls Tryz.prog 282 #[.pointer (some ⟨xb, 0, none⟩), .pointer (some ⟨hb, 0, none⟩), .int .i64 1, .agg #[.string q, .int .i64 0]] w fun e w' => DidE (.tuple #[.agg (dArr Dc.d0), .bool false, .nilIface]) n0 w hb ov ob cap fuel deep (kN xb) ext L e w' := by
  have cF : ∀ W, Tabs W → XAt W xb g xc a l → Calls Tryz.prog 94 #[.pointer (some ⟨xb, 0, none⟩), .string q] W fun e w' => e = .returned (.pointer none) ∧ Below W.heap.size W w' := fun W h1 h2 => by
    have := find94 q h1 hq h2
    rw [hI] at this
    exact this
  have cur := Bag.start s
  clear s
  go_enter Tryz.func282, Tryz.ntmps282
  go_wp2_with (first | ((with_reducible show wpList _ _ _ (⟨_, .box 40 _, _, _, _, _⟩ :: _) _ _); refine wpList_box_blk rfl 40 _ rfl (#[.string q, .int .i64 0]) rfl ?_; intro wk hB hL hs; replace cur := cur.push hL hB (Nat.le_refl _) rfl; clear hB hL hs) | ((with_reducible show wpList _ _ _ (⟨some 8, .alloc 43, _, _, _, _⟩ :: _) _ _); refine wpList_alloc_blk rfl 43 rfl (dArr Dc.d0) zero43 ?_; intro wr hB hL hs; have hler := cur.k.size; replace cur := cur.push hL hB (Nat.le_refl _) rfl; clear hB hL hs; have hk0 := (cur.blk 1 rfl).cell 0; have hk1 := (cur.blk 1 rfl).cell 1) | (go_at_call 94; refine (cF _ cur.s.tabs (hX.keeps cur.k)).mono ?_; rintro e wF ⟨rfl, hbF⟩; replace cur := cur.next hbF; clear hbF hk0 hk1) | ((with_reducible show wpList _ _ _ (⟨_, .store 43 (.tmp 8) _, _, _, _, _⟩ :: _) _ _); refine wpList_store_blk rfl 43 _ _ rfl _ (dArr Dc.d0) _ 43 rfl rfl (cur.blk 0 rfl) Tryz.size43 rfl (dCells_one _) ?_; intro wg hB hO; replace cur := cur.set 0 rfl hO hB hler; clear hB hO))
  exact bodyPost_ret (results_cell_tmp2 Tryz.results282 rfl (cur.blk 0 rfl) Tryz.row43 Tryz.size43) rfl ⟨tp, rfl, cur.s, cur.k⟩

theorem nown_some {n0 : Nat} {w : World} {hb : Nat} {ov : Value} {ob : Nat} {tp : Option Addr} {cap fuel deep : Int} {xb : Nat} {ext : Bool} {L : List (Ky × Ds)} (s : StX n0 w hb ov ob tp cap fuel deep (kN xb) ext L) (hf : 0 < fuel ∧ fuel ≤ 9223372036854775807) (hd : 0 ≤ deep ∧ deep < 10) {g xc : Nat} {a : Option Addr} {l : List Ex} (hX : XAt w xb g xc a l) (q : ByteArray) (hq : q.size + 2 ≤ 1099511627776) {i : Nat} {z : Ex} (hI : xIdx l q = some i) (hx : l[i]? = some z) (h0 : ¬ z.val.kind = 0) : Calls Tryz.prog 282 #[.pointer (some ⟨xb, 0, none⟩), .pointer (some ⟨hb, 0, none⟩), .int .i64 1, .agg #[.string q, .int .i64 0]] w fun e w' => DidE (.tuple #[.agg (dArr (xDs z.val)), .bool true, .nilIface]) n0 w hb ov ob cap (fuel - 1) deep (kN xb) ext L e w' := by
  have cF : ∀ W, Tabs W → XAt W xb g xc a l → Calls Tryz.prog 94 #[.pointer (some ⟨xb, 0, none⟩), .string q] W fun e w' => e = .returned (.pointer (some ⟨g, i * 6 + 0, none⟩)) ∧ Below W.heap.size W w' := fun W h1 h2 => by
    have := find94 q h1 hq h2
    rw [hI] at this
    exact this
  have cur := Bag.start s
  clear s
  go_enter Tryz.func282, Tryz.ntmps282
  go_wp2_with (first | ((with_reducible show wpList _ _ _ (⟨_, .box 40 _, _, _, _, _⟩ :: _) _ _); refine wpList_box_blk rfl 40 _ rfl (#[.string q, .int .i64 0]) rfl ?_; intro wk hB hL hs; replace cur := cur.push hL hB (Nat.le_refl _) rfl; clear hB hL hs) | ((with_reducible show wpList _ _ _ (⟨some 8, .alloc 43, _, _, _, _⟩ :: _) _ _); refine wpList_alloc_blk rfl 43 rfl (dArr Dc.d0) zero43 ?_; intro wr hB hL hs; have hler := cur.k.size; replace cur := cur.push hL hB (Nat.le_refl _) rfl; clear hB hL hs; have hk0 := (cur.blk 1 rfl).cell 0; have hk1 := (cur.blk 1 rfl).cell 1) | (go_at_call 94; refine (cF _ cur.s.tabs (hX.keeps cur.k)).mono ?_; rintro e wF ⟨rfl, hbF⟩; replace cur := cur.next hbF; clear hbF hk0 hk1))
  refine Ord.region (fun W => Has W ([(w.heap.size, #[.string q, .int .i64 0], 40)])) [8, 11] (by kernel_rfl) (cur.drew.has (by simp)) ?_
  intro hS
  replace cur := cur.drew
  refine Ord.tp 0 34 rfl rfl ?_
  refine Ord.tp 1 35 rfl rfl ?_
  refine Ord.tk 2 36 rfl rfl (yieldsIf_load_mid (by rfl) 40 _ rfl w.heap.size 0 rfl ([.string q, .int .i64 0]) _ (fun W hSW => range_all (hSW.blk 0 rfl)) Tryz.underlying40 rfl Tryz.size40) ?_
  refine Ord.tp 3 37 rfl rfl ?_
  refine Ord.two (i := 4) (j := 9) rfl rfl (by kernel_rfl) (by rfl) (by rfl) ?_ ?_
  · intro K HK
    go_simp
    go_at_call 288
    refine (self_any 1 _).mono ?_
    rintro e wS ⟨rfl, hbS⟩
    replace cur := cur.next hbS
    clear hbS
    refine HK.out _ _ ?_
    clear HK
    refine Ord.kp ?_ ?_
    · exact cur.has (by simp)
    clear hS
    intro hS
    try simp only [List.setIfInBounds_toArray, List.set_cons_zero, List.set_cons_succ]
    refine Ord.two (i := 5) (j := 9) rfl rfl (by kernel_rfl) (by rfl) (by rfl) ?_ ?_
    · intro K HK
      go_simp
      go_at_call 64
      refine (xeget_some cur.s hf hd (hX.keeps cur.k) q hq (vSelf 1) hI hx h0).mono ?_
      rintro e wG ⟨tp2, rfl, s9, k9⟩
      replace cur := cur.go s9 k9
      clear s9 k9
      refine HK.out _ _ ?_
      clear HK
      refine Ord.kp ?_ ?_
      · exact cur.has (by simp)
      clear hS
      intro hS
      try simp only [List.setIfInBounds_toArray, List.set_cons_zero, List.set_cons_succ]
      refine Ord.tp 6 33 rfl rfl ?_
      refine Ord.tp 7 40 rfl rfl ?_
      refine Ord.tf 8 41 rfl rfl ?_
      refine Ord.step (i := 9) rfl (by kernel_rfl) (by rfl) ?_
      intro K HK
      refine alloc_op 36 rfl (vArr Dc.v0) zero36 ?_
      intro wh bA hBA hbe hLA
      have hgeA : w.heap.size ≤ bA := by have := cur.k.size; omega
      replace cur := cur.push hLA hBA (Nat.le_of_eq hbe.symm) rfl
      clear hbe hLA hBA
      refine HK.out _ _ ?_
      clear HK
      refine Ord.kp ?_ ?_
      · exact cur.has (by simp)
      clear hS
      intro hS
      try simp only [List.setIfInBounds_toArray, List.set_cons_zero, List.set_cons_succ]
      refine Ord.step (i := 10) rfl (by kernel_rfl) (by rfl) ?_
      intro K HK
      refine store_blk_op 36 (.tmp 11) (.tmp 40) rfl bA (vArr z.val) (vArr Dc.v0) 36 rfl rfl (cur.blk 0 rfl) Tryz.size36 rfl (vArr_one _) ?_
      intro wi hBi hOi
      replace cur := cur.set 0 rfl hOi hBi hgeA
      clear hBi hOi
      refine HK.out _ _ ?_
      clear HK
      refine ⟨Ord.np (by kernel_rfl), ?_⟩
      try simp only [List.setIfInBounds_toArray, List.set_cons_zero, List.set_cons_succ]
      refine Ord.tf 11 12 rfl rfl ?_
      refine Ord.done (by kernel_rfl) ?_ _
      clear hS
      go_wp2_with (first | ((with_reducible show wpList _ _ _ (⟨_, .load 36 (.tmp 11), _, _, _, _⟩ :: _) _ _); refine wpList_load_blk rfl 36 _ rfl _ rfl (show Blk _ _ (#[.int .i64 z.val.kind, .bool z.val.bool, .float .f64 z.val.num, .string z.val.str, .int .i64 z.val.id]) 36 from cur.blk 0 rfl) Tryz.row36 Tryz.size36 ?_) | ((with_reducible show wpList _ _ _ (⟨_, .store 43 (.tmp 8) _, _, _, _, _⟩ :: _) _ _); refine wpList_store_blk rfl 43 _ _ rfl _ (dArr (xDs z.val)) _ 43 rfl rfl (cur.blk 1 rfl) Tryz.size43 rfl (dCells_one _) ?_; intro wg hB hO; replace cur := cur.set 1 rfl hO hB hler; clear hB hO))
      exact bodyPost_ret (results_cell_tmp2 Tryz.results282 rfl (cur.blk 1 rfl) Tryz.row43 Tryz.size43) rfl ⟨tp2, rfl, cur.s, cur.k⟩
    · intro K HK
      refine alloc_op 36 rfl (vArr Dc.v0) zero36 ?_
      intro wh bA hBA hbe hLA
      have hgeA : w.heap.size ≤ bA := by have := cur.k.size; omega
      replace cur := cur.push hLA hBA (Nat.le_of_eq hbe.symm) rfl
      clear hbe hLA hBA
      refine HK.out _ _ ?_
      clear HK
      refine Ord.kp ?_ ?_
      · exact cur.has (by simp)
      clear hS
      intro hS
      try simp only [List.setIfInBounds_toArray, List.set_cons_zero, List.set_cons_succ]
      refine Ord.step (i := 5) rfl (by kernel_rfl) (by rfl) ?_
      intro K HK
      go_simp
      go_at_call 64
      refine (xeget_some cur.s hf hd (hX.keeps cur.k) q hq (vSelf 1) hI hx h0).mono ?_
      rintro e wG ⟨tp2, rfl, s9, k9⟩
      replace cur := cur.go s9 k9
      clear s9 k9
      refine HK.out _ _ ?_
      clear HK
      refine Ord.kp ?_ ?_
      · exact cur.has (by simp)
      clear hS
      intro hS
      try simp only [List.setIfInBounds_toArray, List.set_cons_zero, List.set_cons_succ]
      refine Ord.tp 6 33 rfl rfl ?_
      refine Ord.tp 7 40 rfl rfl ?_
      refine Ord.tf 8 41 rfl rfl ?_
      refine Ord.step (i := 10) rfl (by kernel_rfl) (by rfl) ?_
      intro K HK
      refine store_blk_op 36 (.tmp 11) (.tmp 40) rfl bA (vArr z.val) (vArr Dc.v0) 36 rfl rfl (cur.blk 0 rfl) Tryz.size36 rfl (vArr_one _) ?_
      intro wi hBi hOi
      replace cur := cur.set 0 rfl hOi hBi hgeA
      clear hBi hOi
      refine HK.out _ _ ?_
      clear HK
      refine ⟨Ord.np (by kernel_rfl), ?_⟩
      try simp only [List.setIfInBounds_toArray, List.set_cons_zero, List.set_cons_succ]
      refine Ord.tf 11 12 rfl rfl ?_
      refine Ord.done (by kernel_rfl) ?_ _
      clear hS
      go_wp2_with (first | ((with_reducible show wpList _ _ _ (⟨_, .load 36 (.tmp 11), _, _, _, _⟩ :: _) _ _); refine wpList_load_blk rfl 36 _ rfl _ rfl (show Blk _ _ (#[.int .i64 z.val.kind, .bool z.val.bool, .float .f64 z.val.num, .string z.val.str, .int .i64 z.val.id]) 36 from cur.blk 0 rfl) Tryz.row36 Tryz.size36 ?_) | ((with_reducible show wpList _ _ _ (⟨_, .store 43 (.tmp 8) _, _, _, _, _⟩ :: _) _ _); refine wpList_store_blk rfl 43 _ _ rfl _ (dArr (xDs z.val)) _ 43 rfl rfl (cur.blk 1 rfl) Tryz.size43 rfl (dCells_one _) ?_; intro wg hB hO; replace cur := cur.set 1 rfl hO hB hler; clear hB hO))
      exact bodyPost_ret (results_cell_tmp2 Tryz.results282 rfl (cur.blk 1 rfl) Tryz.row43 Tryz.size43) rfl ⟨tp2, rfl, cur.s, cur.k⟩
  · intro K HK
    refine alloc_op 36 rfl (vArr Dc.v0) zero36 ?_
    intro wh bA hBA hbe hLA
    have hgeA : w.heap.size ≤ bA := by have := cur.k.size; omega
    replace cur := cur.push hLA hBA (Nat.le_of_eq hbe.symm) rfl
    clear hbe hLA hBA
    refine HK.out _ _ ?_
    clear HK
    refine Ord.kp ?_ ?_
    · exact cur.has (by simp)
    clear hS
    intro hS
    try simp only [List.setIfInBounds_toArray, List.set_cons_zero, List.set_cons_succ]
    refine Ord.step (i := 4) rfl (by kernel_rfl) (by rfl) ?_
    intro K HK
    go_simp
    go_at_call 288
    refine (self_any 1 _).mono ?_
    rintro e wS ⟨rfl, hbS⟩
    replace cur := cur.next hbS
    clear hbS
    refine HK.out _ _ ?_
    clear HK
    refine Ord.kp ?_ ?_
    · exact cur.has (by simp)
    clear hS
    intro hS
    try simp only [List.setIfInBounds_toArray, List.set_cons_zero, List.set_cons_succ]
    refine Ord.step (i := 5) rfl (by kernel_rfl) (by rfl) ?_
    intro K HK
    go_simp
    go_at_call 64
    refine (xeget_some cur.s hf hd (hX.keeps cur.k) q hq (vSelf 1) hI hx h0).mono ?_
    rintro e wG ⟨tp2, rfl, s9, k9⟩
    replace cur := cur.go s9 k9
    clear s9 k9
    refine HK.out _ _ ?_
    clear HK
    refine Ord.kp ?_ ?_
    · exact cur.has (by simp)
    clear hS
    intro hS
    try simp only [List.setIfInBounds_toArray, List.set_cons_zero, List.set_cons_succ]
    refine Ord.tp 6 33 rfl rfl ?_
    refine Ord.tp 7 40 rfl rfl ?_
    refine Ord.tf 8 41 rfl rfl ?_
    refine Ord.step (i := 10) rfl (by kernel_rfl) (by rfl) ?_
    intro K HK
    refine store_blk_op 36 (.tmp 11) (.tmp 40) rfl bA (vArr z.val) (vArr Dc.v0) 36 rfl rfl (cur.blk 0 rfl) Tryz.size36 rfl (vArr_one _) ?_
    intro wi hBi hOi
    replace cur := cur.set 0 rfl hOi hBi hgeA
    clear hBi hOi
    refine HK.out _ _ ?_
    clear HK
    refine ⟨Ord.np (by kernel_rfl), ?_⟩
    try simp only [List.setIfInBounds_toArray, List.set_cons_zero, List.set_cons_succ]
    refine Ord.tf 11 12 rfl rfl ?_
    refine Ord.done (by kernel_rfl) ?_ _
    clear hS
    go_wp2_with (first | ((with_reducible show wpList _ _ _ (⟨_, .load 36 (.tmp 11), _, _, _, _⟩ :: _) _ _); refine wpList_load_blk rfl 36 _ rfl _ rfl (show Blk _ _ (#[.int .i64 z.val.kind, .bool z.val.bool, .float .f64 z.val.num, .string z.val.str, .int .i64 z.val.id]) 36 from cur.blk 0 rfl) Tryz.row36 Tryz.size36 ?_) | ((with_reducible show wpList _ _ _ (⟨_, .store 43 (.tmp 8) _, _, _, _, _⟩ :: _) _ _); refine wpList_store_blk rfl 43 _ _ rfl _ (dArr (xDs z.val)) _ 43 rfl rfl (cur.blk 1 rfl) Tryz.size43 rfl (dCells_one _) ?_; intro wg hB hO; replace cur := cur.set 1 rfl hO hB hler; clear hB hO))
    exact bodyPost_ret (results_cell_tmp2 Tryz.results282 rfl (cur.blk 1 rfl) Tryz.row43 Tryz.size43) rfl ⟨tp2, rfl, cur.s, cur.k⟩


theorem nown_thr {n0 : Nat} {w : World} {hb : Nat} {ov : Value} {ob : Nat} {tp : Option Addr} {cap fuel deep : Int} {xb : Nat} {ext : Bool} {L : List (Ky × Ds)} (s : StX n0 w hb ov ob tp cap fuel deep (kN xb) ext L) (hf : 0 < fuel ∧ fuel ≤ 9223372036854775807) (hd : 0 ≤ deep ∧ deep < 10) {g xc : Nat} {a : Option Addr} {l : List Ex} (hX : XAt w xb g xc a l) (q : ByteArray) (hq : q.size + 2 ≤ 1099511627776) {i : Nat} {z : Ex} (hI : xIdx l q = some i) (hx : l[i]? = some z) (h0 : z.val.kind = 0) : Calls Tryz.prog 282 #[.pointer (some ⟨xb, 0, none⟩), .pointer (some ⟨hb, 0, none⟩), .int .i64 1, .agg #[.string q, .int .i64 0]] w fun e w' => DidT3 n0 w hb ov ob cap (fuel - 1) deep (kN xb) ext L e w' := by
  have cF : ∀ W, Tabs W → XAt W xb g xc a l → Calls Tryz.prog 94 #[.pointer (some ⟨xb, 0, none⟩), .string q] W fun e w' => e = .returned (.pointer (some ⟨g, i * 6 + 0, none⟩)) ∧ Below W.heap.size W w' := fun W h1 h2 => by
    have := find94 q h1 hq h2
    rw [hI] at this
    exact this
  have cur := Bag.start s
  clear s
  go_enter Tryz.func282, Tryz.ntmps282
  go_wp2_with (first | ((with_reducible show wpList _ _ _ (⟨_, .box 40 _, _, _, _, _⟩ :: _) _ _); refine wpList_box_blk rfl 40 _ rfl (#[.string q, .int .i64 0]) rfl ?_; intro wk hB hL hs; replace cur := cur.push hL hB (Nat.le_refl _) rfl; clear hB hL hs) | ((with_reducible show wpList _ _ _ (⟨some 8, .alloc 43, _, _, _, _⟩ :: _) _ _); refine wpList_alloc_blk rfl 43 rfl (dArr Dc.d0) zero43 ?_; intro wr hB hL hs; have hler := cur.k.size; replace cur := cur.push hL hB (Nat.le_refl _) rfl; clear hB hL hs; have hk0 := (cur.blk 1 rfl).cell 0; have hk1 := (cur.blk 1 rfl).cell 1) | (go_at_call 94; refine (cF _ cur.s.tabs (hX.keeps cur.k)).mono ?_; rintro e wF ⟨rfl, hbF⟩; replace cur := cur.next hbF; clear hbF hk0 hk1))
  refine Ord.region (fun W => Has W ([(w.heap.size, #[.string q, .int .i64 0], 40)])) [8, 11] (by kernel_rfl) (cur.drew.has (by simp)) ?_
  intro hS
  replace cur := cur.drew
  refine Ord.tp 0 34 rfl rfl ?_
  refine Ord.tp 1 35 rfl rfl ?_
  refine Ord.tk 2 36 rfl rfl (yieldsIf_load_mid (by rfl) 40 _ rfl w.heap.size 0 rfl ([.string q, .int .i64 0]) _ (fun W hSW => range_all (hSW.blk 0 rfl)) Tryz.underlying40 rfl Tryz.size40) ?_
  refine Ord.tp 3 37 rfl rfl ?_
  refine Ord.two (i := 4) (j := 9) rfl rfl (by kernel_rfl) (by rfl) (by rfl) ?_ ?_
  · intro K HK
    go_simp
    go_at_call 288
    refine (self_any 1 _).mono ?_
    rintro e wS ⟨rfl, hbS⟩
    replace cur := cur.next hbS
    clear hbS
    refine HK.out _ _ ?_
    clear HK
    refine Ord.kp ?_ ?_
    · exact cur.has (by simp)
    clear hS
    intro hS
    try simp only [List.setIfInBounds_toArray, List.set_cons_zero, List.set_cons_succ]
    refine Ord.two (i := 5) (j := 9) rfl rfl (by kernel_rfl) (by rfl) (by rfl) ?_ ?_
    · intro K HK
      go_simp
      go_at_call 64
      refine (xeget_thr cur.s hf hd (hX.keeps cur.k) q hq (vSelf 1) hI hx h0).mono ?_
      rintro e wG ⟨bt, tp2, rfl, hnb, hbb, s9, k9⟩
      replace cur := cur.go s9 k9
      clear s9 k9
      refine HK.out _ _ ?_
      clear HK
      refine Ord.kp ?_ ?_
      · exact cur.has (by simp)
      clear hS
      intro hS
      try simp only [List.setIfInBounds_toArray, List.set_cons_zero, List.set_cons_succ]
      refine Ord.tp 6 33 rfl rfl ?_
      refine Ord.tp 7 40 rfl rfl ?_
      refine Ord.tf 8 41 rfl rfl ?_
      refine Ord.step (i := 9) rfl (by kernel_rfl) (by rfl) ?_
      intro K HK
      refine alloc_op 36 rfl (vArr Dc.v0) zero36 ?_
      intro wh bA hBA hbe hLA
      try replace hbb := hbb.next hLA
      have hgeA : w.heap.size ≤ bA := by have := cur.k.size; omega
      replace cur := cur.push hLA hBA (Nat.le_of_eq hbe.symm) rfl
      clear hbe hLA hBA
      refine HK.out _ _ ?_
      clear HK
      refine Ord.kp ?_ ?_
      · exact cur.has (by simp)
      clear hS
      intro hS
      try simp only [List.setIfInBounds_toArray, List.set_cons_zero, List.set_cons_succ]
      refine Ord.step (i := 10) rfl (by kernel_rfl) (by rfl) ?_
      intro K HK
      refine store_blk_op 36 (.tmp 11) (.tmp 40) rfl bA (vArr Dc.v0) (vArr Dc.v0) 36 rfl rfl (cur.blk 0 rfl) Tryz.size36 rfl (vArr_one _) ?_
      intro wi hBi hOi
      replace hbb := hbb.only hOi (by simpa using hbb.ne (cur.blk 0 rfl) (by decide))
      replace cur := cur.set 0 rfl hOi hBi hgeA
      clear hBi hOi
      refine HK.out _ _ ?_
      clear HK
      refine ⟨Ord.np (by kernel_rfl), ?_⟩
      try simp only [List.setIfInBounds_toArray, List.set_cons_zero, List.set_cons_succ]
      refine Ord.tf 11 12 rfl rfl ?_
      refine Ord.done (by kernel_rfl) ?_ _
      clear hS
      unfold errT
      go_wp2_with (first | ((with_reducible show wpList _ _ _ (⟨_, .store 43 (.tmp 8) _, _, _, _, _⟩ :: _) _ _); refine wpList_store_blk rfl 43 _ _ rfl _ (dArr Dc.d0) _ 43 rfl rfl (cur.blk 1 rfl) Tryz.size43 rfl (dCells_one _) ?_; intro wg hB hO; replace hbb := hbb.only hO (by simpa using hbb.ne (cur.blk 1 rfl) (by decide));replace cur := cur.set 1 rfl hO hB hler; clear hB hO))
      exact bodyPost_ret (results_cell_tmp2 Tryz.results282 rfl (cur.blk 1 rfl) Tryz.row43 Tryz.size43) rfl ⟨bt, tp2, rfl, hnb, hbb, cur.s, cur.k⟩
    · intro K HK
      refine alloc_op 36 rfl (vArr Dc.v0) zero36 ?_
      intro wh bA hBA hbe hLA
      try replace hbb := hbb.next hLA
      have hgeA : w.heap.size ≤ bA := by have := cur.k.size; omega
      replace cur := cur.push hLA hBA (Nat.le_of_eq hbe.symm) rfl
      clear hbe hLA hBA
      refine HK.out _ _ ?_
      clear HK
      refine Ord.kp ?_ ?_
      · exact cur.has (by simp)
      clear hS
      intro hS
      try simp only [List.setIfInBounds_toArray, List.set_cons_zero, List.set_cons_succ]
      refine Ord.step (i := 5) rfl (by kernel_rfl) (by rfl) ?_
      intro K HK
      go_simp
      go_at_call 64
      refine (xeget_thr cur.s hf hd (hX.keeps cur.k) q hq (vSelf 1) hI hx h0).mono ?_
      rintro e wG ⟨bt, tp2, rfl, hnb, hbb, s9, k9⟩
      replace cur := cur.go s9 k9
      clear s9 k9
      refine HK.out _ _ ?_
      clear HK
      refine Ord.kp ?_ ?_
      · exact cur.has (by simp)
      clear hS
      intro hS
      try simp only [List.setIfInBounds_toArray, List.set_cons_zero, List.set_cons_succ]
      refine Ord.tp 6 33 rfl rfl ?_
      refine Ord.tp 7 40 rfl rfl ?_
      refine Ord.tf 8 41 rfl rfl ?_
      refine Ord.step (i := 10) rfl (by kernel_rfl) (by rfl) ?_
      intro K HK
      refine store_blk_op 36 (.tmp 11) (.tmp 40) rfl bA (vArr Dc.v0) (vArr Dc.v0) 36 rfl rfl (cur.blk 0 rfl) Tryz.size36 rfl (vArr_one _) ?_
      intro wi hBi hOi
      replace hbb := hbb.only hOi (by simpa using hbb.ne (cur.blk 0 rfl) (by decide))
      replace cur := cur.set 0 rfl hOi hBi hgeA
      clear hBi hOi
      refine HK.out _ _ ?_
      clear HK
      refine ⟨Ord.np (by kernel_rfl), ?_⟩
      try simp only [List.setIfInBounds_toArray, List.set_cons_zero, List.set_cons_succ]
      refine Ord.tf 11 12 rfl rfl ?_
      refine Ord.done (by kernel_rfl) ?_ _
      clear hS
      unfold errT
      go_wp2_with (first | ((with_reducible show wpList _ _ _ (⟨_, .store 43 (.tmp 8) _, _, _, _, _⟩ :: _) _ _); refine wpList_store_blk rfl 43 _ _ rfl _ (dArr Dc.d0) _ 43 rfl rfl (cur.blk 1 rfl) Tryz.size43 rfl (dCells_one _) ?_; intro wg hB hO; replace hbb := hbb.only hO (by simpa using hbb.ne (cur.blk 1 rfl) (by decide));replace cur := cur.set 1 rfl hO hB hler; clear hB hO))
      exact bodyPost_ret (results_cell_tmp2 Tryz.results282 rfl (cur.blk 1 rfl) Tryz.row43 Tryz.size43) rfl ⟨bt, tp2, rfl, hnb, hbb, cur.s, cur.k⟩
  · intro K HK
    refine alloc_op 36 rfl (vArr Dc.v0) zero36 ?_
    intro wh bA hBA hbe hLA
    try replace hbb := hbb.next hLA
    have hgeA : w.heap.size ≤ bA := by have := cur.k.size; omega
    replace cur := cur.push hLA hBA (Nat.le_of_eq hbe.symm) rfl
    clear hbe hLA hBA
    refine HK.out _ _ ?_
    clear HK
    refine Ord.kp ?_ ?_
    · exact cur.has (by simp)
    clear hS
    intro hS
    try simp only [List.setIfInBounds_toArray, List.set_cons_zero, List.set_cons_succ]
    refine Ord.step (i := 4) rfl (by kernel_rfl) (by rfl) ?_
    intro K HK
    go_simp
    go_at_call 288
    refine (self_any 1 _).mono ?_
    rintro e wS ⟨rfl, hbS⟩
    replace cur := cur.next hbS
    clear hbS
    refine HK.out _ _ ?_
    clear HK
    refine Ord.kp ?_ ?_
    · exact cur.has (by simp)
    clear hS
    intro hS
    try simp only [List.setIfInBounds_toArray, List.set_cons_zero, List.set_cons_succ]
    refine Ord.step (i := 5) rfl (by kernel_rfl) (by rfl) ?_
    intro K HK
    go_simp
    go_at_call 64
    refine (xeget_thr cur.s hf hd (hX.keeps cur.k) q hq (vSelf 1) hI hx h0).mono ?_
    rintro e wG ⟨bt, tp2, rfl, hnb, hbb, s9, k9⟩
    replace cur := cur.go s9 k9
    clear s9 k9
    refine HK.out _ _ ?_
    clear HK
    refine Ord.kp ?_ ?_
    · exact cur.has (by simp)
    clear hS
    intro hS
    try simp only [List.setIfInBounds_toArray, List.set_cons_zero, List.set_cons_succ]
    refine Ord.tp 6 33 rfl rfl ?_
    refine Ord.tp 7 40 rfl rfl ?_
    refine Ord.tf 8 41 rfl rfl ?_
    refine Ord.step (i := 10) rfl (by kernel_rfl) (by rfl) ?_
    intro K HK
    refine store_blk_op 36 (.tmp 11) (.tmp 40) rfl bA (vArr Dc.v0) (vArr Dc.v0) 36 rfl rfl (cur.blk 0 rfl) Tryz.size36 rfl (vArr_one _) ?_
    intro wi hBi hOi
    replace hbb := hbb.only hOi (by simpa using hbb.ne (cur.blk 0 rfl) (by decide))
    replace cur := cur.set 0 rfl hOi hBi hgeA
    clear hBi hOi
    refine HK.out _ _ ?_
    clear HK
    refine ⟨Ord.np (by kernel_rfl), ?_⟩
    try simp only [List.setIfInBounds_toArray, List.set_cons_zero, List.set_cons_succ]
    refine Ord.tf 11 12 rfl rfl ?_
    refine Ord.done (by kernel_rfl) ?_ _
    clear hS
    unfold errT
    go_wp2_with (first | ((with_reducible show wpList _ _ _ (⟨_, .store 43 (.tmp 8) _, _, _, _, _⟩ :: _) _ _); refine wpList_store_blk rfl 43 _ _ rfl _ (dArr Dc.d0) _ 43 rfl rfl (cur.blk 1 rfl) Tryz.size43 rfl (dCells_one _) ?_; intro wg hB hO; replace hbb := hbb.only hO (by simpa using hbb.ne (cur.blk 1 rfl) (by decide));replace cur := cur.set 1 rfl hO hB hler; clear hB hO))
    exact bodyPost_ret (results_cell_tmp2 Tryz.results282 rfl (cur.blk 1 rfl) Tryz.row43 Tryz.size43) rfl ⟨bt, tp2, rfl, hnb, hbb, cur.s, cur.k⟩



end Go.Proofs.YtoalboilghgalaaGreatDoor
