/- Lemmas for this claim, in parts: Fault, Arg0. -/
import Derived.Test.YtoalboilghgalaaGreatDoorB18
import Derived.Test.YtoalboilghgalaaGreatDoorB31
set_option maxRecDepth 100000
set_option maxHeartbeats 4000000
set_option linter.unusedVariables false
set_option linter.unusedSimpArgs false
/- cameolaw07.Fault of one of the heap's errors. -/
namespace Go.Proofs.YtoalboilghgalaaGreatDoor
open Go.RowKit
open Go.Proofs.Dc (V Ds Ky)
attribute [local go_sem] run_store_float

attribute [local go_sem] Oper.semAt_some
theorem Tryz.row83 : ∃ d, Tryz.prog.underlying 83 = some d ∧ d.isRow = true := ⟨_, Tryz.underlying83, rfl⟩
theorem Tryz.size83 : (Tryz.prog.info? 83).map (·.size) = some 7 := by kernel_rfl
def fArr (c : Int) : Array Value := #[.int .i64 c, .int .i64 0, .int .i64 0, .bool false, .float .f64 0, .string ⟨#[]⟩, .int .i64 0]
theorem zero83 (w : World) : (zeroValue 83).run Tryz.prog w = .ok (.agg (fArr 0)) w := by kernel_rfl
theorem fArr_one (c : Int) : (fArr c).all (·.oneCell') = true := by simp [fArr, Value.oneCell']
theorem Blk.cellF {W : World} {b : Nat} {c : Int} (h : Blk W b (fArr c) 83) : ∀ j, W.cell? ⟨b, j, none⟩ = #[.int .i64 c, .int .i64 0, .int .i64 0, .bool false, .float .f64 0, .string ⟨#[]⟩, .int .i64 0][j]? := h.cell
theorem as26 (n : Int) (w : World) : (Instr.typeAssert (errV n) 31 26 true).run Tryz.prog w = .ok (.tuple #[.int .i64 n, .bool true]) w := by kernel_rfl
theorem eq_nil_err (n : Int) (w : World) : (binOp .eql 31 (errV n) .nilIface).run Tryz.prog w = .ok (.bool false) w := by kernel_rfl
theorem fault0 (n : Int) (w : World) : Calls Tryz.prog 87 #[errV n] w fun e w' => e = .returned (.agg (fArr n)) ∧ Below w.heap.size w w' := by
  have h1 := as26 n
  have h2 := eq_nil_err n
  go_enter Tryz.func87, Tryz.ntmps87
  go_wp2_with (first | ((with_reducible show wpList _ _ _ (⟨_, .alloc 83, _, _, _, _⟩ :: _) _ _); refine wpList_alloc_blk rfl 83 rfl (fArr 0) zero83 ?_; intro w1 hA hL hs; clear hs) | ((with_reducible show wpList _ _ _ (⟨_, .store 83 _ _, _, _, _, _⟩ :: _) _ _); refine wpList_store_blk rfl 83 _ _ rfl _ (fArr n) _ 83 rfl rfl hA Tryz.size83 rfl (fArr_one _) ?_; intro w9 hB hO))
  exact bodyPost_ret (results_cell Tryz.results87 rfl hB Tryz.row83 Tryz.size83) rfl ⟨rfl, below_only hL hO (by simp)⟩

theorem fault_any (n : Int) (w : World) : Calls Tryz.prog 37 #[errV n] w fun e w' => e = .returned (.agg (fArr n)) ∧ Below w.heap.size w w' := by
  go_enter Tryz.func37, Tryz.ntmps37
  go_wp2_with (first | ((with_reducible show wpList _ _ _ (⟨_, .alloc 83, _, _, _, _⟩ :: _) _ _); refine wpList_alloc_blk rfl 83 rfl (fArr 0) zero83 ?_; intro w1 hA hL hs; clear hs) | (go_at_call 87; refine (fault0 n _).mono ?_; rintro e w2 ⟨rfl, hb2⟩; replace hA := hA.next hb2; replace hL := more hL hb2) | ((with_reducible show wpList _ _ _ (⟨_, .store 83 _ _, _, _, _, _⟩ :: _) _ _); refine wpList_store_blk rfl 83 _ _ rfl _ (fArr n) _ 83 rfl rfl hA Tryz.size83 rfl (fArr_one _) ?_; intro w9 hB hO))
  exact bodyPost_ret (results_cell Tryz.results37 rfl hB Tryz.row83 Tryz.size83) rfl ⟨rfl, below_only hL hO (by simp)⟩

end Go.Proofs.YtoalboilghgalaaGreatDoor

/- The caller's list of properties. -/
namespace Go.Proofs.YtoalboilghgalaaGreatDoor
open Go.RowKit
open Go.Proofs.Dc (V Ds Ky)

/-- the caller's list of properties, below n0 -/
def ArgAt (n0 : Nat) (W : World) (A : Option Addr) (ps : List (Ky × Ds)) : Prop := ∀ i, (h : i < ps.length) → ∃ b off, A = some ⟨b, off, none⟩ ∧ b < n0 ∧ b < W.heap.size ∧ W.rangeAt b (off + i * 20) (pCells ps[i])
theorem ArgAt.below {n0 : Nat} {W W' : World} {A : Option Addr} {ps : List (Ky × Ds)} (h : ArgAt n0 W A ps) (hb : Below n0 W W') : ArgAt n0 W' A ps := fun i hi => by
  obtain ⟨b, off, h1, h2, h3, h4⟩ := h i hi
  exact ⟨b, off, h1, h2, Nat.lt_of_lt_of_le h3 hb.size, fun j v hv => (World.cell?_of_block (w := W) (a := ⟨b, _, none⟩) (hb.block b h2)).trans (h4 j v hv)⟩
theorem range_sub {W : World} {b o : Nat} {cs ds : List Value} (h : W.rangeAt b o cs) (k : Nat) (hk : ∀ j, j < ds.length → cs[k + j]? = ds[j]?) : W.rangeAt b (o + k) ds := fun j v hv => by
  have hj := (List.getElem?_eq_some_iff.1 hv).1
  rw [Nat.add_assoc]
  exact h (k + j) v ((hk j hj).trans hv)
theorem arg_key {W : World} {b o : Nat} {x : Ky × Ds} (h : W.rangeAt b o (pCells x)) : W.rangeAt b o [.string x.1.str, .int .i64 x.1.sym] := fun j v hv => by
  have hj : j < 2 := (List.getElem?_eq_some_iff.1 hv).1
  refine h j v ?_
  match j, hj with
  | 0, _ => exact hv
  | 1, _ => exact hv
theorem arg_desc {W : World} {b o : Nat} {x : Ky × Ds} (h : W.rangeAt b o (pCells x)) : W.rangeAt b (o + 2) [.int .i64 x.2.val.kind, .bool x.2.val.bool, .float .f64 x.2.val.num, .string x.2.val.str, .int .i64 x.2.val.id, .int .i64 x.2.get.kind, .bool x.2.get.bool, .float .f64 x.2.get.num, .string x.2.get.str, .int .i64 x.2.get.id, .int .i64 x.2.set.kind, .bool x.2.set.bool, .float .f64 x.2.set.num, .string x.2.set.str, .int .i64 x.2.set.id, .int .i64 x.2.w, .int .i64 x.2.e, .int .i64 x.2.c] := range_sub h 2 fun j _ => by
  rw [Nat.add_comm]; rfl

end Go.Proofs.YtoalboilghgalaaGreatDoor
