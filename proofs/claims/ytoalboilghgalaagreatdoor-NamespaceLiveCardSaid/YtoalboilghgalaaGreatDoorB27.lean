/- Lemmas for this claim, in parts: Nsclo. -/
import Derived.Test.YtoalboilghgalaaGreatDoorB01
import Derived.Test.YtoalboilghgalaaGreatDoorB25
import Derived.Test.YtoalboilghgalaaGreatDoorB26
set_option maxRecDepth 100000
set_option maxHeartbeats 4000000
set_option linter.unusedVariables false
set_option linter.unusedSimpArgs false
/- A namespace through the door: Get, Set, SetPrototypeOf, HasProperty and Delete of a string, PreventExtensions. -/
namespace Go.Proofs.YtoalboilghgalaaGreatDoor
open Go.RowKit
open Go.Proofs.Dc (V Ds Ky)
attribute [local go_sem] run_store_float

/-- a namespace's object in its heap -/
def kN (xb : Nat) : Kd := ⟨10, vN, .iface 157 (.pointer (some ⟨xb, 0, none⟩)), .iface 157 (.pointer (some ⟨xb, 0, none⟩))⟩
theorem XAt.keeps {n0 : Nat} {W W' : World} {xb g xc : Nat} {a : Option Addr} {l : List Ex} (h : XAt W xb g xc a l) (k : Keeps n0 W W') : XAt W' xb g xc a l := by
  refine ⟨h.blk.keeps k rfl, ?_, h.ne, h.strict, h.small⟩
  rcases h.row with h1 | ⟨h1, C, hC⟩
  · exact .inl h1
  · exact .inr ⟨h1, C, hC.blk.keeps k rfl, hC.le, hC.at_⟩
/-- a value, and the heap as it is said to be -/
def DidE (v : Value) (n0 : Nat) (w : World) (hb : Nat) (ov : Value) (ob : Nat) (cap fuel deep : Int) (kd : Kd) (ext : Bool) (L : List (Ky × Ds)) (e : Ending) (w' : World) : Prop :=
  ∃ tp, e = .returned v ∧ StX n0 w' hb ov ob tp cap fuel deep kd ext L ∧ Keeps n0 w w'
/-- .. an error that is thrown -/
def DidT (n0 : Nat) (w : World) (hb : Nat) (ov : Value) (ob : Nat) (cap fuel deep : Int) (kd : Kd) (ext : Bool) (L : List (Ky × Ds)) (e : Ending) (w' : World) : Prop :=
  ∃ b tp, e = .returned (.tuple #[.agg (vArr Dc.v0), errT b]) ∧ n0 ≤ b ∧ Blk w' b thrArr 206 ∧ StX n0 w' hb ov ob tp cap fuel deep kd ext L ∧ Keeps n0 w w'
theorem xmSet (xb : Nat) (w : World) : (method 451 157 (.pointer (some ⟨xb, 0, none⟩)) "Set").run Tryz.prog w = .ok (286, .pointer (some ⟨xb, 0, none⟩)) w := by kernel_rfl
theorem xmSetPrototypeOf (xb : Nat) (w : World) : (method 451 157 (.pointer (some ⟨xb, 0, none⟩)) "SetPrototypeOf").run Tryz.prog w = .ok (287, .pointer (some ⟨xb, 0, none⟩)) w := by kernel_rfl
theorem xmHasProperty (xb : Nat) (w : World) : (method 451 157 (.pointer (some ⟨xb, 0, none⟩)) "HasProperty").run Tryz.prog w = .ok (283, .pointer (some ⟨xb, 0, none⟩)) w := by kernel_rfl
theorem xmDelete (xb : Nat) (w : World) : (method 451 157 (.pointer (some ⟨xb, 0, none⟩)) "Delete").run Tryz.prog w = .ok (280, .pointer (some ⟨xb, 0, none⟩)) w := by kernel_rfl
theorem xmGet (xb : Nat) (w : World) : (method 451 157 (.pointer (some ⟨xb, 0, none⟩)) "Get").run Tryz.prog w = .ok (281, .pointer (some ⟨xb, 0, none⟩)) w := by kernel_rfl
theorem xmGetOwnProperty (xb : Nat) (w : World) : (method 451 157 (.pointer (some ⟨xb, 0, none⟩)) "GetOwnProperty").run Tryz.prog w = .ok (282, .pointer (some ⟨xb, 0, none⟩)) w := by kernel_rfl
theorem xmDefineOwnProperty (xb : Nat) (w : World) : (method 451 157 (.pointer (some ⟨xb, 0, none⟩)) "DefineOwnProperty").run Tryz.prog w = .ok (279, .pointer (some ⟨xb, 0, none⟩)) w := by kernel_rfl
theorem xmOwnPropertyKeys (xb : Nat) (w : World) : (method 451 157 (.pointer (some ⟨xb, 0, none⟩)) "OwnPropertyKeys").run Tryz.prog w = .ok (285, .pointer (some ⟨xb, 0, none⟩)) w := by kernel_rfl
theorem xcset {n0 : Nat} {w : World} {hb : Nat} {ov : Value} {ob : Nat} {tp : Option Addr} {cap fuel deep : Int} {xb : Nat} {ext : Bool} {L : List (Ky × Ds)} {bh bi bk bv br : Nat} (k : Ky) (v r : V) (cur : Bag n0 w w hb ov ob tp cap fuel deep (kN xb) ext L [(br, vArr r, 36), (bv, vArr v, 36), (bk, kArr k, 40), (bi, #[.int .i64 1], 3), (bh, #[.pointer (some ⟨hb, 0, none⟩)], 25)]) : Calls Tryz.prog 109 #[.pointer (some ⟨bh, 0, none⟩), .pointer (some ⟨bi, 0, none⟩), .pointer (some ⟨bk, 0, none⟩), .pointer (some ⟨bv, 0, none⟩), .pointer (some ⟨br, 0, none⟩)] w (GivesE (fun x => .bool x) (fun x f e l _ => x = false ∧ f = fuel ∧ e = ext ∧ l = L) n0 w hb ov ob cap deep (kN xb)) := by
  have hm := xmSet xb
  have hmv : (kN xb).mv = .iface 157 (.pointer (some ⟨xb, 0, none⟩)) := rfl
  go_enter Tryz.func109, Tryz.ntmps109
  go_wp2_with fail
  refine Ord.region (fun W => Has W ([(br, vArr r, 36), (bv, vArr v, 36), (bk, kArr k, 40), (bi, #[.int .i64 1], 3), (bh, #[.pointer (some ⟨hb, 0, none⟩)], 25)])) [9, 10, 11, 12] (by kernel_rfl) (cur.drew.has (by simp)) ?_
  intro hS
  replace cur := cur.drew
  refine Ord.tk 0 7 rfl rfl (yields_load1 (by rfl) 25 _ rfl bh 0 rfl (.pointer (some ⟨hb, 0, none⟩)) Tryz.isAgg25 (fun W hSW => (hSW.blk 4 rfl).cell 0)) ?_
  refine Ord.tk 1 8 rfl rfl (yields_load1 (by rfl) 3 _ rfl bi 0 rfl (.int .i64 1) Tryz.isAgg3 (fun W hSW => (hSW.blk 3 rfl).cell 0)) ?_
  refine Ord.tk 3 10 rfl rfl (yields_load1 (by rfl) 25 _ rfl bh 0 rfl (.pointer (some ⟨hb, 0, none⟩)) Tryz.isAgg25 (fun W hSW => (hSW.blk 4 rfl).cell 0)) ?_
  refine Ord.tk 4 11 rfl rfl (yields_load1 (by rfl) 3 _ rfl bi 0 rfl (.int .i64 1) Tryz.isAgg3 (fun W hSW => (hSW.blk 3 rfl).cell 0)) ?_
  refine Ord.tk 5 12 rfl rfl (yieldsIf_load_mid (by rfl) 40 _ rfl bk 0 rfl ([.string k.str, .int .i64 k.sym]) _ (fun W hSW => range_all (hSW.blk 2 rfl)) Tryz.underlying40 rfl Tryz.size40) ?_
  refine Ord.tk 6 13 rfl rfl (yieldsIf_load_mid (by rfl) 36 _ rfl bv 0 rfl ([.int .i64 v.kind, .bool v.bool, .float .f64 v.num, .string v.str, .int .i64 v.id]) _ (fun W hSW => range_all (hSW.blk 1 rfl)) Tryz.underlying36 rfl Tryz.size36) ?_
  refine Ord.tk 7 14 rfl rfl (yieldsIf_load_mid (by rfl) 36 _ rfl br 0 rfl ([.int .i64 r.kind, .bool r.bool, .float .f64 r.num, .string r.str, .int .i64 r.id]) _ (fun W hSW => range_all (hSW.blk 0 rfl)) Tryz.underlying36 rfl Tryz.size36) ?_
  refine Ord.step (i := 2) rfl (by kernel_rfl) (by rfl) ?_
  intro K HK
  go_simp
  go_at_call 108
  refine (does_any cur.s).mono ?_
  rintro e wX ⟨rfl, rfl⟩
  refine HK.out _ _ ?_
  clear HK
  refine Ord.kp ?_ ?_
  · exact cur.has (by simp)
  clear hS
  intro hS
  try simp only [List.setIfInBounds_toArray, List.set_cons_zero, List.set_cons_succ]
  refine Ord.step (i := 8) rfl (by kernel_rfl) (by rfl) ?_
  intro K HK
  go_simp
  go_at_call 286
  refine (nset_any _ (.pointer (some ⟨xb, 0, none⟩)) (.pointer (some ⟨hb, 0, none⟩)) 1 k v r).mono ?_
  rintro e wY ⟨rfl, hbY⟩
  replace cur := cur.next hbY
  refine HK.out _ _ ?_
  clear HK
  refine ⟨Ord.np (by kernel_rfl), ?_⟩
  try simp only [List.setIfInBounds_toArray, List.set_cons_zero, List.set_cons_succ]
  refine Ord.tf 9 16 rfl rfl ?_
  refine Ord.tf 10 17 rfl rfl ?_
  refine Ord.tf 11 5 rfl rfl ?_
  refine Ord.tf 12 6 rfl rfl ?_
  refine Ord.done (by kernel_rfl) ?_ _
  clear hS
  go_wp2
  go_ret2
  exact ⟨_, tp, fuel, ext, L, rfl, cur.s, cur.k, rfl, rfl, rfl, rfl⟩


theorem xcproto {n0 : Nat} {w : World} {hb : Nat} {ov : Value} {ob : Nat} {tp : Option Addr} {cap fuel deep : Int} {xb : Nat} {ext : Bool} {L : List (Ky × Ds)} {bh bi bv : Nat} (v : V) (cur : Bag n0 w w hb ov ob tp cap fuel deep (kN xb) ext L [(bv, vArr v, 36), (bi, #[.int .i64 1], 3), (bh, #[.pointer (some ⟨hb, 0, none⟩)], 25)]) : Calls Tryz.prog 133 #[.pointer (some ⟨bh, 0, none⟩), .pointer (some ⟨bi, 0, none⟩), .pointer (some ⟨bv, 0, none⟩)] w (GivesE (fun x => .bool x) (fun x f e l _ => x = (v.kind == 2) ∧ f = fuel ∧ e = ext ∧ l = L) n0 w hb ov ob cap deep (kN xb)) := by
  have hm := xmSetPrototypeOf xb
  have hmv : (kN xb).mv = .iface 157 (.pointer (some ⟨xb, 0, none⟩)) := rfl
  go_enter Tryz.func133, Tryz.ntmps133
  go_wp2_with fail
  refine Ord.region (fun W => Has W ([(bv, vArr v, 36), (bi, #[.int .i64 1], 3), (bh, #[.pointer (some ⟨hb, 0, none⟩)], 25)])) [7, 8, 9, 10] (by kernel_rfl) (cur.drew.has (by simp)) ?_
  intro hS
  replace cur := cur.drew
  refine Ord.tk 0 5 rfl rfl (yields_load1 (by rfl) 25 _ rfl bh 0 rfl (.pointer (some ⟨hb, 0, none⟩)) Tryz.isAgg25 (fun W hSW => (hSW.blk 2 rfl).cell 0)) ?_
  refine Ord.tk 1 6 rfl rfl (yields_load1 (by rfl) 3 _ rfl bi 0 rfl (.int .i64 1) Tryz.isAgg3 (fun W hSW => (hSW.blk 1 rfl).cell 0)) ?_
  refine Ord.tk 3 8 rfl rfl (yields_load1 (by rfl) 25 _ rfl bh 0 rfl (.pointer (some ⟨hb, 0, none⟩)) Tryz.isAgg25 (fun W hSW => (hSW.blk 2 rfl).cell 0)) ?_
  refine Ord.tk 4 9 rfl rfl (yields_load1 (by rfl) 3 _ rfl bi 0 rfl (.int .i64 1) Tryz.isAgg3 (fun W hSW => (hSW.blk 1 rfl).cell 0)) ?_
  refine Ord.tk 5 10 rfl rfl (yieldsIf_load_mid (by rfl) 36 _ rfl bv 0 rfl ([.int .i64 v.kind, .bool v.bool, .float .f64 v.num, .string v.str, .int .i64 v.id]) _ (fun W hSW => range_all (hSW.blk 0 rfl)) Tryz.underlying36 rfl Tryz.size36) ?_
  refine Ord.step (i := 2) rfl (by kernel_rfl) (by rfl) ?_
  intro K HK
  go_simp
  go_at_call 108
  refine (does_any cur.s).mono ?_
  rintro e wX ⟨rfl, rfl⟩
  refine HK.out _ _ ?_
  clear HK
  refine Ord.kp ?_ ?_
  · exact cur.has (by simp)
  clear hS
  intro hS
  try simp only [List.setIfInBounds_toArray, List.set_cons_zero, List.set_cons_succ]
  refine Ord.step (i := 6) rfl (by kernel_rfl) (by rfl) ?_
  intro K HK
  go_simp
  go_at_call 287
  refine (nsproto_any _ (.pointer (some ⟨xb, 0, none⟩)) (.pointer (some ⟨hb, 0, none⟩)) 1 v).mono ?_
  rintro e wY ⟨rfl, hbY⟩
  replace cur := cur.next hbY
  refine HK.out _ _ ?_
  clear HK
  refine ⟨Ord.np (by kernel_rfl), ?_⟩
  try simp only [List.setIfInBounds_toArray, List.set_cons_zero, List.set_cons_succ]
  refine Ord.tf 7 12 rfl rfl ?_
  refine Ord.tf 8 13 rfl rfl ?_
  refine Ord.tf 9 3 rfl rfl ?_
  refine Ord.tf 10 4 rfl rfl ?_
  refine Ord.done (by kernel_rfl) ?_ _
  clear hS
  go_wp2
  go_ret2
  exact ⟨_, tp, fuel, ext, L, rfl, cur.s, cur.k, rfl, rfl, rfl, rfl⟩


theorem xchas_some {n0 : Nat} {w : World} {hb : Nat} {ov : Value} {ob : Nat} {tp : Option Addr} {cap fuel deep : Int} {xb : Nat} {ext : Bool} {L : List (Ky × Ds)} {bh bi bk : Nat} {g xc : Nat} {a : Option Addr} {l : List Ex} (hX : XAt w xb g xc a l) (q : ByteArray) (hq : q.size + 2 ≤ 1099511627776) {i : Nat} (hI : xIdx l q = some i) (cur : Bag n0 w w hb ov ob tp cap fuel deep (kN xb) ext L [(bk, #[.string q, .int .i64 0], 40), (bi, #[.int .i64 1], 3), (bh, #[.pointer (some ⟨hb, 0, none⟩)], 25)]) : Calls Tryz.prog 134 #[.pointer (some ⟨bh, 0, none⟩), .pointer (some ⟨bi, 0, none⟩), .pointer (some ⟨bk, 0, none⟩)] w (GivesE (fun x => .bool x) (fun x f e l _ => x = true ∧ f = fuel ∧ e = ext ∧ l = L) n0 w hb ov ob cap deep (kN xb)) := by
  have hm := xmHasProperty xb
  have hmv : (kN xb).mv = .iface 157 (.pointer (some ⟨xb, 0, none⟩)) := rfl
  go_enter Tryz.func134, Tryz.ntmps134
  go_wp2_with fail
  refine Ord.region (fun W => Has W ([(bk, #[.string q, .int .i64 0], 40), (bi, #[.int .i64 1], 3), (bh, #[.pointer (some ⟨hb, 0, none⟩)], 25)])) [7, 8, 9, 10] (by kernel_rfl) (cur.drew.has (by simp)) ?_
  intro hS
  replace cur := cur.drew
  refine Ord.tk 0 5 rfl rfl (yields_load1 (by rfl) 25 _ rfl bh 0 rfl (.pointer (some ⟨hb, 0, none⟩)) Tryz.isAgg25 (fun W hSW => (hSW.blk 2 rfl).cell 0)) ?_
  refine Ord.tk 1 6 rfl rfl (yields_load1 (by rfl) 3 _ rfl bi 0 rfl (.int .i64 1) Tryz.isAgg3 (fun W hSW => (hSW.blk 1 rfl).cell 0)) ?_
  refine Ord.tk 3 8 rfl rfl (yields_load1 (by rfl) 25 _ rfl bh 0 rfl (.pointer (some ⟨hb, 0, none⟩)) Tryz.isAgg25 (fun W hSW => (hSW.blk 2 rfl).cell 0)) ?_
  refine Ord.tk 4 9 rfl rfl (yields_load1 (by rfl) 3 _ rfl bi 0 rfl (.int .i64 1) Tryz.isAgg3 (fun W hSW => (hSW.blk 1 rfl).cell 0)) ?_
  refine Ord.tk 5 10 rfl rfl (yieldsIf_load_mid (by rfl) 40 _ rfl bk 0 rfl ([.string q, .int .i64 0]) _ (fun W hSW => range_all (hSW.blk 0 rfl)) Tryz.underlying40 rfl Tryz.size40) ?_
  refine Ord.step (i := 2) rfl (by kernel_rfl) (by rfl) ?_
  intro K HK
  go_simp
  go_at_call 108
  refine (does_any cur.s).mono ?_
  rintro e wX ⟨rfl, rfl⟩
  refine HK.out _ _ ?_
  clear HK
  refine Ord.kp ?_ ?_
  · exact cur.has (by simp)
  clear hS
  intro hS
  try simp only [List.setIfInBounds_toArray, List.set_cons_zero, List.set_cons_succ]
  refine Ord.step (i := 6) rfl (by kernel_rfl) (by rfl) ?_
  intro K HK
  go_simp
  go_at_call 283
  refine (nhas_some cur.s.tabs (hX.keeps cur.k) q hq (.pointer (some ⟨hb, 0, none⟩)) 1 hI).mono ?_
  rintro e wY ⟨rfl, hbY⟩
  replace cur := cur.next hbY
  refine HK.out _ _ ?_
  clear HK
  refine ⟨Ord.np (by kernel_rfl), ?_⟩
  try simp only [List.setIfInBounds_toArray, List.set_cons_zero, List.set_cons_succ]
  refine Ord.tf 7 12 rfl rfl ?_
  refine Ord.tf 8 13 rfl rfl ?_
  refine Ord.tf 9 3 rfl rfl ?_
  refine Ord.tf 10 4 rfl rfl ?_
  refine Ord.done (by kernel_rfl) ?_ _
  clear hS
  go_wp2
  go_ret2
  exact ⟨_, tp, fuel, ext, L, rfl, cur.s, cur.k, rfl, rfl, rfl, rfl⟩


theorem xchas_none {n0 : Nat} {w : World} {hb : Nat} {ov : Value} {ob : Nat} {tp : Option Addr} {cap fuel deep : Int} {xb : Nat} {ext : Bool} {L : List (Ky × Ds)} {bh bi bk : Nat} {g xc : Nat} {a : Option Addr} {l : List Ex} (hX : XAt w xb g xc a l) (q : ByteArray) (hq : q.size + 2 ≤ 1099511627776) (hI : xIdx l q = none) (cur : Bag n0 w w hb ov ob tp cap fuel deep (kN xb) ext L [(bk, #[.string q, .int .i64 0], 40), (bi, #[.int .i64 1], 3), (bh, #[.pointer (some ⟨hb, 0, none⟩)], 25)]) : Calls Tryz.prog 134 #[.pointer (some ⟨bh, 0, none⟩), .pointer (some ⟨bi, 0, none⟩), .pointer (some ⟨bk, 0, none⟩)] w (GivesE (fun x => .bool x) (fun x f e l _ => x = false ∧ f = fuel ∧ e = ext ∧ l = L) n0 w hb ov ob cap deep (kN xb)) := by
  have hm := xmHasProperty xb
  have hmv : (kN xb).mv = .iface 157 (.pointer (some ⟨xb, 0, none⟩)) := rfl
  go_enter Tryz.func134, Tryz.ntmps134
  go_wp2_with fail
  refine Ord.region (fun W => Has W ([(bk, #[.string q, .int .i64 0], 40), (bi, #[.int .i64 1], 3), (bh, #[.pointer (some ⟨hb, 0, none⟩)], 25)])) [7, 8, 9, 10] (by kernel_rfl) (cur.drew.has (by simp)) ?_
  intro hS
  replace cur := cur.drew
  refine Ord.tk 0 5 rfl rfl (yields_load1 (by rfl) 25 _ rfl bh 0 rfl (.pointer (some ⟨hb, 0, none⟩)) Tryz.isAgg25 (fun W hSW => (hSW.blk 2 rfl).cell 0)) ?_
  refine Ord.tk 1 6 rfl rfl (yields_load1 (by rfl) 3 _ rfl bi 0 rfl (.int .i64 1) Tryz.isAgg3 (fun W hSW => (hSW.blk 1 rfl).cell 0)) ?_
  refine Ord.tk 3 8 rfl rfl (yields_load1 (by rfl) 25 _ rfl bh 0 rfl (.pointer (some ⟨hb, 0, none⟩)) Tryz.isAgg25 (fun W hSW => (hSW.blk 2 rfl).cell 0)) ?_
  refine Ord.tk 4 9 rfl rfl (yields_load1 (by rfl) 3 _ rfl bi 0 rfl (.int .i64 1) Tryz.isAgg3 (fun W hSW => (hSW.blk 1 rfl).cell 0)) ?_
  refine Ord.tk 5 10 rfl rfl (yieldsIf_load_mid (by rfl) 40 _ rfl bk 0 rfl ([.string q, .int .i64 0]) _ (fun W hSW => range_all (hSW.blk 0 rfl)) Tryz.underlying40 rfl Tryz.size40) ?_
  refine Ord.step (i := 2) rfl (by kernel_rfl) (by rfl) ?_
  intro K HK
  go_simp
  go_at_call 108
  refine (does_any cur.s).mono ?_
  rintro e wX ⟨rfl, rfl⟩
  refine HK.out _ _ ?_
  clear HK
  refine Ord.kp ?_ ?_
  · exact cur.has (by simp)
  clear hS
  intro hS
  try simp only [List.setIfInBounds_toArray, List.set_cons_zero, List.set_cons_succ]
  refine Ord.step (i := 6) rfl (by kernel_rfl) (by rfl) ?_
  intro K HK
  go_simp
  go_at_call 283
  refine (nhas_none cur.s.tabs (hX.keeps cur.k) q hq (.pointer (some ⟨hb, 0, none⟩)) 1 hI).mono ?_
  rintro e wY ⟨rfl, hbY⟩
  replace cur := cur.next hbY
  refine HK.out _ _ ?_
  clear HK
  refine ⟨Ord.np (by kernel_rfl), ?_⟩
  try simp only [List.setIfInBounds_toArray, List.set_cons_zero, List.set_cons_succ]
  refine Ord.tf 7 12 rfl rfl ?_
  refine Ord.tf 8 13 rfl rfl ?_
  refine Ord.tf 9 3 rfl rfl ?_
  refine Ord.tf 10 4 rfl rfl ?_
  refine Ord.done (by kernel_rfl) ?_ _
  clear hS
  go_wp2
  go_ret2
  exact ⟨_, tp, fuel, ext, L, rfl, cur.s, cur.k, rfl, rfl, rfl, rfl⟩


theorem xcdel_some {n0 : Nat} {w : World} {hb : Nat} {ov : Value} {ob : Nat} {tp : Option Addr} {cap fuel deep : Int} {xb : Nat} {ext : Bool} {L : List (Ky × Ds)} {bh bi bk : Nat} {g xc : Nat} {a : Option Addr} {l : List Ex} (hX : XAt w xb g xc a l) (q : ByteArray) (hq : q.size + 2 ≤ 1099511627776) {i : Nat} (hI : xIdx l q = some i) (cur : Bag n0 w w hb ov ob tp cap fuel deep (kN xb) ext L [(bk, #[.string q, .int .i64 0], 40), (bi, #[.int .i64 1], 3), (bh, #[.pointer (some ⟨hb, 0, none⟩)], 25)]) : Calls Tryz.prog 110 #[.pointer (some ⟨bh, 0, none⟩), .pointer (some ⟨bi, 0, none⟩), .pointer (some ⟨bk, 0, none⟩)] w (GivesE (fun x => .bool x) (fun x f e l _ => x = false ∧ f = fuel ∧ e = ext ∧ l = L) n0 w hb ov ob cap deep (kN xb)) := by
  have hm := xmDelete xb
  have hmv : (kN xb).mv = .iface 157 (.pointer (some ⟨xb, 0, none⟩)) := rfl
  go_enter Tryz.func110, Tryz.ntmps110
  go_wp2_with fail
  refine Ord.region (fun W => Has W ([(bk, #[.string q, .int .i64 0], 40), (bi, #[.int .i64 1], 3), (bh, #[.pointer (some ⟨hb, 0, none⟩)], 25)])) [7, 8, 9, 10] (by kernel_rfl) (cur.drew.has (by simp)) ?_
  intro hS
  replace cur := cur.drew
  refine Ord.tk 0 5 rfl rfl (yields_load1 (by rfl) 25 _ rfl bh 0 rfl (.pointer (some ⟨hb, 0, none⟩)) Tryz.isAgg25 (fun W hSW => (hSW.blk 2 rfl).cell 0)) ?_
  refine Ord.tk 1 6 rfl rfl (yields_load1 (by rfl) 3 _ rfl bi 0 rfl (.int .i64 1) Tryz.isAgg3 (fun W hSW => (hSW.blk 1 rfl).cell 0)) ?_
  refine Ord.tk 3 8 rfl rfl (yields_load1 (by rfl) 25 _ rfl bh 0 rfl (.pointer (some ⟨hb, 0, none⟩)) Tryz.isAgg25 (fun W hSW => (hSW.blk 2 rfl).cell 0)) ?_
  refine Ord.tk 4 9 rfl rfl (yields_load1 (by rfl) 3 _ rfl bi 0 rfl (.int .i64 1) Tryz.isAgg3 (fun W hSW => (hSW.blk 1 rfl).cell 0)) ?_
  refine Ord.tk 5 10 rfl rfl (yieldsIf_load_mid (by rfl) 40 _ rfl bk 0 rfl ([.string q, .int .i64 0]) _ (fun W hSW => range_all (hSW.blk 0 rfl)) Tryz.underlying40 rfl Tryz.size40) ?_
  refine Ord.step (i := 2) rfl (by kernel_rfl) (by rfl) ?_
  intro K HK
  go_simp
  go_at_call 108
  refine (does_any cur.s).mono ?_
  rintro e wX ⟨rfl, rfl⟩
  refine HK.out _ _ ?_
  clear HK
  refine Ord.kp ?_ ?_
  · exact cur.has (by simp)
  clear hS
  intro hS
  try simp only [List.setIfInBounds_toArray, List.set_cons_zero, List.set_cons_succ]
  refine Ord.step (i := 6) rfl (by kernel_rfl) (by rfl) ?_
  intro K HK
  go_simp
  go_at_call 280
  refine (ndel_some cur.s.tabs (hX.keeps cur.k) q hq (.pointer (some ⟨hb, 0, none⟩)) 1 hI).mono ?_
  rintro e wY ⟨rfl, hbY⟩
  replace cur := cur.next hbY
  refine HK.out _ _ ?_
  clear HK
  refine ⟨Ord.np (by kernel_rfl), ?_⟩
  try simp only [List.setIfInBounds_toArray, List.set_cons_zero, List.set_cons_succ]
  refine Ord.tf 7 12 rfl rfl ?_
  refine Ord.tf 8 13 rfl rfl ?_
  refine Ord.tf 9 3 rfl rfl ?_
  refine Ord.tf 10 4 rfl rfl ?_
  refine Ord.done (by kernel_rfl) ?_ _
  clear hS
  go_wp2
  go_ret2
  exact ⟨_, tp, fuel, ext, L, rfl, cur.s, cur.k, rfl, rfl, rfl, rfl⟩


theorem xcdel_none {n0 : Nat} {w : World} {hb : Nat} {ov : Value} {ob : Nat} {tp : Option Addr} {cap fuel deep : Int} {xb : Nat} {ext : Bool} {L : List (Ky × Ds)} {bh bi bk : Nat} {g xc : Nat} {a : Option Addr} {l : List Ex} (hX : XAt w xb g xc a l) (q : ByteArray) (hq : q.size + 2 ≤ 1099511627776) (hI : xIdx l q = none) (cur : Bag n0 w w hb ov ob tp cap fuel deep (kN xb) ext L [(bk, #[.string q, .int .i64 0], 40), (bi, #[.int .i64 1], 3), (bh, #[.pointer (some ⟨hb, 0, none⟩)], 25)]) : Calls Tryz.prog 110 #[.pointer (some ⟨bh, 0, none⟩), .pointer (some ⟨bi, 0, none⟩), .pointer (some ⟨bk, 0, none⟩)] w (GivesE (fun x => .bool x) (fun x f e l _ => x = true ∧ f = fuel ∧ e = ext ∧ l = L) n0 w hb ov ob cap deep (kN xb)) := by
  have hm := xmDelete xb
  have hmv : (kN xb).mv = .iface 157 (.pointer (some ⟨xb, 0, none⟩)) := rfl
  go_enter Tryz.func110, Tryz.ntmps110
  go_wp2_with fail
  refine Ord.region (fun W => Has W ([(bk, #[.string q, .int .i64 0], 40), (bi, #[.int .i64 1], 3), (bh, #[.pointer (some ⟨hb, 0, none⟩)], 25)])) [7, 8, 9, 10] (by kernel_rfl) (cur.drew.has (by simp)) ?_
  intro hS
  replace cur := cur.drew
  refine Ord.tk 0 5 rfl rfl (yields_load1 (by rfl) 25 _ rfl bh 0 rfl (.pointer (some ⟨hb, 0, none⟩)) Tryz.isAgg25 (fun W hSW => (hSW.blk 2 rfl).cell 0)) ?_
  refine Ord.tk 1 6 rfl rfl (yields_load1 (by rfl) 3 _ rfl bi 0 rfl (.int .i64 1) Tryz.isAgg3 (fun W hSW => (hSW.blk 1 rfl).cell 0)) ?_
  refine Ord.tk 3 8 rfl rfl (yields_load1 (by rfl) 25 _ rfl bh 0 rfl (.pointer (some ⟨hb, 0, none⟩)) Tryz.isAgg25 (fun W hSW => (hSW.blk 2 rfl).cell 0)) ?_
  refine Ord.tk 4 9 rfl rfl (yields_load1 (by rfl) 3 _ rfl bi 0 rfl (.int .i64 1) Tryz.isAgg3 (fun W hSW => (hSW.blk 1 rfl).cell 0)) ?_
  refine Ord.tk 5 10 rfl rfl (yieldsIf_load_mid (by rfl) 40 _ rfl bk 0 rfl ([.string q, .int .i64 0]) _ (fun W hSW => range_all (hSW.blk 0 rfl)) Tryz.underlying40 rfl Tryz.size40) ?_
  refine Ord.step (i := 2) rfl (by kernel_rfl) (by rfl) ?_
  intro K HK
  go_simp
  go_at_call 108
  refine (does_any cur.s).mono ?_
  rintro e wX ⟨rfl, rfl⟩
  refine HK.out _ _ ?_
  clear HK
  refine Ord.kp ?_ ?_
  · exact cur.has (by simp)
  clear hS
  intro hS
  try simp only [List.setIfInBounds_toArray, List.set_cons_zero, List.set_cons_succ]
  refine Ord.step (i := 6) rfl (by kernel_rfl) (by rfl) ?_
  intro K HK
  go_simp
  go_at_call 280
  refine (ndel_none cur.s.tabs (hX.keeps cur.k) q hq (.pointer (some ⟨hb, 0, none⟩)) 1 hI).mono ?_
  rintro e wY ⟨rfl, hbY⟩
  replace cur := cur.next hbY
  refine HK.out _ _ ?_
  clear HK
  refine ⟨Ord.np (by kernel_rfl), ?_⟩
  try simp only [List.setIfInBounds_toArray, List.set_cons_zero, List.set_cons_succ]
  refine Ord.tf 7 12 rfl rfl ?_
  refine Ord.tf 8 13 rfl rfl ?_
  refine Ord.tf 9 3 rfl rfl ?_
  refine Ord.tf 10 4 rfl rfl ?_
  refine Ord.done (by kernel_rfl) ?_ _
  clear hS
  go_wp2
  go_ret2
  exact ⟨_, tp, fuel, ext, L, rfl, cur.s, cur.k, rfl, rfl, rfl, rfl⟩


theorem xcget_none {n0 : Nat} {w : World} {hb : Nat} {ov : Value} {ob : Nat} {tp : Option Addr} {cap fuel deep : Int} {xb : Nat} {ext : Bool} {L : List (Ky × Ds)} {bh bi bk br : Nat} {g xc : Nat} {a : Option Addr} {l : List Ex} (hX : XAt w xb g xc a l) (q : ByteArray) (hq : q.size + 2 ≤ 1099511627776) (rv : V) (hI : xIdx l q = none) (cur : Bag n0 w w hb ov ob tp cap fuel deep (kN xb) ext L [(br, vArr rv, 36), (bk, #[.string q, .int .i64 0], 40), (bi, #[.int .i64 1], 3), (bh, #[.pointer (some ⟨hb, 0, none⟩)], 25)]) : Calls Tryz.prog 115 #[.pointer (some ⟨bh, 0, none⟩), .pointer (some ⟨bi, 0, none⟩), .pointer (some ⟨bk, 0, none⟩), .pointer (some ⟨br, 0, none⟩)] w (GivesE (fun x => .agg (vArr x)) (fun x f e l _ => x = Dc.vU ∧ f = fuel ∧ e = ext ∧ l = L) n0 w hb ov ob cap deep (kN xb)) := by
  have hm := xmGet xb
  have hmv : (kN xb).mv = .iface 157 (.pointer (some ⟨xb, 0, none⟩)) := rfl
  go_enter Tryz.func115, Tryz.ntmps115
  go_wp2_with ((with_reducible show wpList _ _ _ (⟨_, .alloc 36, _, _, _, _⟩ :: _) _ _); refine wpList_alloc_blk rfl 36 rfl (vArr Dc.v0) zero36 ?_; intro wa hB hL hs; replace cur := cur.push hL hB (Nat.le_refl _) rfl; clear hB hL hs)
  refine Ord.region (fun W => Has W ([(br, vArr rv, 36), (bk, #[.string q, .int .i64 0], 40), (bi, #[.int .i64 1], 3), (bh, #[.pointer (some ⟨hb, 0, none⟩)], 25)])) [9, 11] (by kernel_rfl) (cur.drew.has (by simp)) ?_
  intro hS
  replace cur := cur.drew
  refine Ord.tk 0 6 rfl rfl (yields_load1 (by rfl) 25 _ rfl bh 0 rfl (.pointer (some ⟨hb, 0, none⟩)) Tryz.isAgg25 (fun W hSW => (hSW.blk 3 rfl).cell 0)) ?_
  refine Ord.tk 1 7 rfl rfl (yields_load1 (by rfl) 3 _ rfl bi 0 rfl (.int .i64 1) Tryz.isAgg3 (fun W hSW => (hSW.blk 2 rfl).cell 0)) ?_
  refine Ord.tk 3 9 rfl rfl (yields_load1 (by rfl) 25 _ rfl bh 0 rfl (.pointer (some ⟨hb, 0, none⟩)) Tryz.isAgg25 (fun W hSW => (hSW.blk 3 rfl).cell 0)) ?_
  refine Ord.tk 4 10 rfl rfl (yields_load1 (by rfl) 3 _ rfl bi 0 rfl (.int .i64 1) Tryz.isAgg3 (fun W hSW => (hSW.blk 2 rfl).cell 0)) ?_
  refine Ord.tk 5 11 rfl rfl (yieldsIf_load_mid (by rfl) 40 _ rfl bk 0 rfl ([.string q, .int .i64 0]) _ (fun W hSW => range_all (hSW.blk 1 rfl)) Tryz.underlying40 rfl Tryz.size40) ?_
  refine Ord.tk 6 12 rfl rfl (yieldsIf_load_mid (by rfl) 36 _ rfl br 0 rfl ([.int .i64 rv.kind, .bool rv.bool, .float .f64 rv.num, .string rv.str, .int .i64 rv.id]) _ (fun W hSW => range_all (hSW.blk 0 rfl)) Tryz.underlying36 rfl Tryz.size36) ?_
  refine Ord.step (i := 2) rfl (by kernel_rfl) (by rfl) ?_
  intro K HK
  go_simp
  go_at_call 108
  refine (does_any cur.s).mono ?_
  rintro e wX ⟨rfl, rfl⟩
  refine HK.out _ _ ?_
  clear HK
  refine Ord.kp ?_ ?_
  · exact cur.has (by simp)
  clear hS
  intro hS
  try simp only [List.setIfInBounds_toArray, List.set_cons_zero, List.set_cons_succ]
  refine Ord.step (i := 7) rfl (by kernel_rfl) (by rfl) ?_
  intro K HK
  go_simp
  go_at_call 281
  refine (nget_none cur.s.tabs (hX.keeps cur.k) q hq (.pointer (some ⟨hb, 0, none⟩)) 1 rv hI).mono ?_
  rintro e wY ⟨rfl, hbY⟩
  replace cur := cur.next hbY
  refine HK.out _ _ ?_
  clear HK
  refine Ord.kp ?_ ?_
  · exact cur.has (by simp)
  clear hS
  intro hS
  try simp only [List.setIfInBounds_toArray, List.set_cons_zero, List.set_cons_succ]
  refine Ord.tp 8 14 rfl rfl ?_
  refine Ord.tf 9 15 rfl rfl ?_
  refine Ord.step (i := 10) rfl (by kernel_rfl) (by rfl) ?_
  intro K HK
  refine store_blk_op 36 (.tmp 4) (.tmp 14) rfl w.heap.size (vArr Dc.vU) (vArr Dc.v0) 36 rfl rfl (cur.blk 0 rfl) Tryz.size36 rfl (vArr_one _) ?_
  intro wi hBi hOi
  replace cur := cur.set 0 rfl hOi hBi (Nat.le_refl _)
  clear hBi hOi
  refine HK.out _ _ ?_
  clear HK
  refine ⟨Ord.np (by kernel_rfl), ?_⟩
  try simp only [List.setIfInBounds_toArray, List.set_cons_zero, List.set_cons_succ]
  refine Ord.tf 11 5 rfl rfl ?_
  refine Ord.done (by kernel_rfl) ?_ _
  clear hS
  go_wp2
  exact bodyPost_ret (results_cell_tmp Tryz.results115 rfl (cur.blk 0 rfl) Tryz.row36 Tryz.size36) rfl ⟨_, tp, fuel, ext, L, rfl, cur.s, cur.k, rfl, rfl, rfl, rfl⟩


theorem xcget_some {n0 : Nat} {w : World} {hb : Nat} {ov : Value} {ob : Nat} {tp : Option Addr} {cap fuel deep : Int} {xb : Nat} {ext : Bool} {L : List (Ky × Ds)} {bh bi bk br : Nat} {g xc : Nat} {a : Option Addr} {l : List Ex} (hX : XAt w xb g xc a l) (q : ByteArray) (hq : q.size + 2 ≤ 1099511627776) (rv : V) {i : Nat} {z : Ex} (hI : xIdx l q = some i) (hx : l[i]? = some z) (h0 : ¬ z.val.kind = 0) (cur : Bag n0 w w hb ov ob tp cap fuel deep (kN xb) ext L [(br, vArr rv, 36), (bk, #[.string q, .int .i64 0], 40), (bi, #[.int .i64 1], 3), (bh, #[.pointer (some ⟨hb, 0, none⟩)], 25)]) : Calls Tryz.prog 115 #[.pointer (some ⟨bh, 0, none⟩), .pointer (some ⟨bi, 0, none⟩), .pointer (some ⟨bk, 0, none⟩), .pointer (some ⟨br, 0, none⟩)] w (GivesE (fun x => .agg (vArr x)) (fun x f e l _ => x = z.val ∧ f = fuel ∧ e = ext ∧ l = L) n0 w hb ov ob cap deep (kN xb)) := by
  have hm := xmGet xb
  have hmv : (kN xb).mv = .iface 157 (.pointer (some ⟨xb, 0, none⟩)) := rfl
  go_enter Tryz.func115, Tryz.ntmps115
  go_wp2_with ((with_reducible show wpList _ _ _ (⟨_, .alloc 36, _, _, _, _⟩ :: _) _ _); refine wpList_alloc_blk rfl 36 rfl (vArr Dc.v0) zero36 ?_; intro wa hB hL hs; replace cur := cur.push hL hB (Nat.le_refl _) rfl; clear hB hL hs)
  refine Ord.region (fun W => Has W ([(br, vArr rv, 36), (bk, #[.string q, .int .i64 0], 40), (bi, #[.int .i64 1], 3), (bh, #[.pointer (some ⟨hb, 0, none⟩)], 25)])) [9, 11] (by kernel_rfl) (cur.drew.has (by simp)) ?_
  intro hS
  replace cur := cur.drew
  refine Ord.tk 0 6 rfl rfl (yields_load1 (by rfl) 25 _ rfl bh 0 rfl (.pointer (some ⟨hb, 0, none⟩)) Tryz.isAgg25 (fun W hSW => (hSW.blk 3 rfl).cell 0)) ?_
  refine Ord.tk 1 7 rfl rfl (yields_load1 (by rfl) 3 _ rfl bi 0 rfl (.int .i64 1) Tryz.isAgg3 (fun W hSW => (hSW.blk 2 rfl).cell 0)) ?_
  refine Ord.tk 3 9 rfl rfl (yields_load1 (by rfl) 25 _ rfl bh 0 rfl (.pointer (some ⟨hb, 0, none⟩)) Tryz.isAgg25 (fun W hSW => (hSW.blk 3 rfl).cell 0)) ?_
  refine Ord.tk 4 10 rfl rfl (yields_load1 (by rfl) 3 _ rfl bi 0 rfl (.int .i64 1) Tryz.isAgg3 (fun W hSW => (hSW.blk 2 rfl).cell 0)) ?_
  refine Ord.tk 5 11 rfl rfl (yieldsIf_load_mid (by rfl) 40 _ rfl bk 0 rfl ([.string q, .int .i64 0]) _ (fun W hSW => range_all (hSW.blk 1 rfl)) Tryz.underlying40 rfl Tryz.size40) ?_
  refine Ord.tk 6 12 rfl rfl (yieldsIf_load_mid (by rfl) 36 _ rfl br 0 rfl ([.int .i64 rv.kind, .bool rv.bool, .float .f64 rv.num, .string rv.str, .int .i64 rv.id]) _ (fun W hSW => range_all (hSW.blk 0 rfl)) Tryz.underlying36 rfl Tryz.size36) ?_
  refine Ord.step (i := 2) rfl (by kernel_rfl) (by rfl) ?_
  intro K HK
  go_simp
  go_at_call 108
  refine (does_any cur.s).mono ?_
  rintro e wX ⟨rfl, rfl⟩
  refine HK.out _ _ ?_
  clear HK
  refine Ord.kp ?_ ?_
  · exact cur.has (by simp)
  clear hS
  intro hS
  try simp only [List.setIfInBounds_toArray, List.set_cons_zero, List.set_cons_succ]
  refine Ord.step (i := 7) rfl (by kernel_rfl) (by rfl) ?_
  intro K HK
  go_simp
  go_at_call 281
  refine (nget_some cur.s.tabs (hX.keeps cur.k) q hq (.pointer (some ⟨hb, 0, none⟩)) 1 rv hI hx h0).mono ?_
  rintro e wY ⟨rfl, hbY⟩
  replace cur := cur.next hbY
  refine HK.out _ _ ?_
  clear HK
  refine Ord.kp ?_ ?_
  · exact cur.has (by simp)
  clear hS
  intro hS
  try simp only [List.setIfInBounds_toArray, List.set_cons_zero, List.set_cons_succ]
  refine Ord.tp 8 14 rfl rfl ?_
  refine Ord.tf 9 15 rfl rfl ?_
  refine Ord.step (i := 10) rfl (by kernel_rfl) (by rfl) ?_
  intro K HK
  refine store_blk_op 36 (.tmp 4) (.tmp 14) rfl w.heap.size (vArr z.val) (vArr Dc.v0) 36 rfl rfl (cur.blk 0 rfl) Tryz.size36 rfl (vArr_one _) ?_
  intro wi hBi hOi
  replace cur := cur.set 0 rfl hOi hBi (Nat.le_refl _)
  clear hBi hOi
  refine HK.out _ _ ?_
  clear HK
  refine ⟨Ord.np (by kernel_rfl), ?_⟩
  try simp only [List.setIfInBounds_toArray, List.set_cons_zero, List.set_cons_succ]
  refine Ord.tf 11 5 rfl rfl ?_
  refine Ord.done (by kernel_rfl) ?_ _
  clear hS
  go_wp2
  exact bodyPost_ret (results_cell_tmp Tryz.results115 rfl (cur.blk 0 rfl) Tryz.row36 Tryz.size36) rfl ⟨_, tp, fuel, ext, L, rfl, cur.s, cur.k, rfl, rfl, rfl, rfl⟩


theorem xcget_thr {n0 : Nat} {w : World} {hb : Nat} {ov : Value} {ob : Nat} {tp : Option Addr} {cap fuel deep : Int} {xb : Nat} {ext : Bool} {L : List (Ky × Ds)} {bh bi bk br : Nat} {g xc : Nat} {a : Option Addr} {l : List Ex} (hX : XAt w xb g xc a l) (q : ByteArray) (hq : q.size + 2 ≤ 1099511627776) (rv : V) {i : Nat} {x : Ex} (hI : xIdx l q = some i) (hx : l[i]? = some x) (h0 : x.val.kind = 0) (cur : Bag n0 w w hb ov ob tp cap fuel deep (kN xb) ext L [(br, vArr rv, 36), (bk, #[.string q, .int .i64 0], 40), (bi, #[.int .i64 1], 3), (bh, #[.pointer (some ⟨hb, 0, none⟩)], 25)]) : Calls Tryz.prog 115 #[.pointer (some ⟨bh, 0, none⟩), .pointer (some ⟨bi, 0, none⟩), .pointer (some ⟨bk, 0, none⟩), .pointer (some ⟨br, 0, none⟩)] w (GivesT (α := V) (fun x => .agg (vArr x)) (fun _ => True) thrArr (fun f e l => f = fuel ∧ e = ext ∧ l = L) n0 w hb ov ob cap deep (kN xb)) := by
  have hm := xmGet xb
  have hmv : (kN xb).mv = .iface 157 (.pointer (some ⟨xb, 0, none⟩)) := rfl
  go_enter Tryz.func115, Tryz.ntmps115
  go_wp2_with ((with_reducible show wpList _ _ _ (⟨_, .alloc 36, _, _, _, _⟩ :: _) _ _); refine wpList_alloc_blk rfl 36 rfl (vArr Dc.v0) zero36 ?_; intro wa hB hL hs; replace cur := cur.push hL hB (Nat.le_refl _) rfl; clear hB hL hs)
  refine Ord.region (fun W => Has W ([(br, vArr rv, 36), (bk, #[.string q, .int .i64 0], 40), (bi, #[.int .i64 1], 3), (bh, #[.pointer (some ⟨hb, 0, none⟩)], 25)])) [9, 11] (by kernel_rfl) (cur.drew.has (by simp)) ?_
  intro hS
  replace cur := cur.drew
  refine Ord.tk 0 6 rfl rfl (yields_load1 (by rfl) 25 _ rfl bh 0 rfl (.pointer (some ⟨hb, 0, none⟩)) Tryz.isAgg25 (fun W hSW => (hSW.blk 3 rfl).cell 0)) ?_
  refine Ord.tk 1 7 rfl rfl (yields_load1 (by rfl) 3 _ rfl bi 0 rfl (.int .i64 1) Tryz.isAgg3 (fun W hSW => (hSW.blk 2 rfl).cell 0)) ?_
  refine Ord.tk 3 9 rfl rfl (yields_load1 (by rfl) 25 _ rfl bh 0 rfl (.pointer (some ⟨hb, 0, none⟩)) Tryz.isAgg25 (fun W hSW => (hSW.blk 3 rfl).cell 0)) ?_
  refine Ord.tk 4 10 rfl rfl (yields_load1 (by rfl) 3 _ rfl bi 0 rfl (.int .i64 1) Tryz.isAgg3 (fun W hSW => (hSW.blk 2 rfl).cell 0)) ?_
  refine Ord.tk 5 11 rfl rfl (yieldsIf_load_mid (by rfl) 40 _ rfl bk 0 rfl ([.string q, .int .i64 0]) _ (fun W hSW => range_all (hSW.blk 1 rfl)) Tryz.underlying40 rfl Tryz.size40) ?_
  refine Ord.tk 6 12 rfl rfl (yieldsIf_load_mid (by rfl) 36 _ rfl br 0 rfl ([.int .i64 rv.kind, .bool rv.bool, .float .f64 rv.num, .string rv.str, .int .i64 rv.id]) _ (fun W hSW => range_all (hSW.blk 0 rfl)) Tryz.underlying36 rfl Tryz.size36) ?_
  refine Ord.step (i := 2) rfl (by kernel_rfl) (by rfl) ?_
  intro K HK
  go_simp
  go_at_call 108
  refine (does_any cur.s).mono ?_
  rintro e wX ⟨rfl, rfl⟩
  refine HK.out _ _ ?_
  clear HK
  refine Ord.kp ?_ ?_
  · exact cur.has (by simp)
  clear hS
  intro hS
  try simp only [List.setIfInBounds_toArray, List.set_cons_zero, List.set_cons_succ]
  refine Ord.step (i := 7) rfl (by kernel_rfl) (by rfl) ?_
  intro K HK
  go_simp
  go_at_call 281
  refine (nget_thr cur.s.tabs (hX.keeps cur.k) q hq (.pointer (some ⟨hb, 0, none⟩)) 1 rv hI hx h0).mono ?_
  rintro e wY ⟨bt, rfl, hbt, hTh, hbY⟩
  have hnt : n0 ≤ bt := Nat.le_trans (Nat.le_trans cur.n cur.k.size) hbt
  replace cur := cur.push hbY hTh hbt rfl
  clear hbY hTh hbt
  refine HK.out _ _ ?_
  clear HK
  refine Ord.kp ?_ ?_
  · exact cur.has (by simp)
  clear hS
  intro hS
  try simp only [List.setIfInBounds_toArray, List.set_cons_zero, List.set_cons_succ]
  refine Ord.tp 8 14 rfl rfl ?_
  refine Ord.tf 9 15 rfl rfl ?_
  refine Ord.step (i := 10) rfl (by kernel_rfl) (by rfl) ?_
  intro K HK
  refine store_blk_op 36 (.tmp 4) (.tmp 14) rfl w.heap.size (vArr Dc.v0) (vArr Dc.v0) 36 rfl rfl (cur.blk 1 rfl) Tryz.size36 rfl (vArr_one _) ?_
  intro wi hBi hOi
  replace cur := cur.set 1 rfl hOi hBi (Nat.le_refl _)
  clear hBi hOi
  refine HK.out _ _ ?_
  clear HK
  refine ⟨Ord.np (by kernel_rfl), ?_⟩
  try simp only [List.setIfInBounds_toArray, List.set_cons_zero, List.set_cons_succ]
  refine Ord.tf 11 5 rfl rfl ?_
  refine Ord.done (by kernel_rfl) ?_ _
  clear hS
  go_wp2
  exact bodyPost_ret (results_cell_tmp Tryz.results115 rfl (cur.blk 1 rfl) Tryz.row36 Tryz.size36) rfl ⟨_, bt, tp, fuel, ext, L, rfl, trivial, cur.s, cur.k, hnt, cur.blk 0 rfl, rfl, rfl, rfl⟩



end Go.Proofs.YtoalboilghgalaaGreatDoor
