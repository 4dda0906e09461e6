/- Lemmas for this claim, in parts: Fault. -/
import Derived.Test.YtoalboilghgalaaGreatDoorC18
set_option maxRecDepth 100000
set_option maxHeartbeats 4000000
set_option linter.unusedVariables false
set_option linter.unusedSimpArgs false
/- cameolaw07.Fault of one of the heap's errors. -/
namespace Go.Proofs.YtoalboilghgalaaGreatDoor
open Go.RowKit
open Go.Proofs.Dc (V Ds Ky)
attribute [local go_sem] run_store_float

attribute [local go_sem] Oper.semAt_some
theorem Tryz.row83 : ∃ d, Tryz.prog.underlying 83 = some d ∧ d.isRow = true := ⟨_, Tryz.underlying83, rfl⟩
theorem Tryz.size83 : (Tryz.prog.info? 83).map (·.size) = some 7 := by kernel_rfl
def fArr (c : Int) : Array Value := #[.int .i64 c, .int .i64 0, .int .i64 0, .bool false, .float .f64 0, .string ⟨#[]⟩, .int .i64 0]
theorem zero83 (w : World) : (zeroValue 83).run Tryz.prog w = .ok (.agg (fArr 0)) w := by kernel_rfl
theorem fArr_one (c : Int) : (fArr c).all (·.oneCell') = true := by simp [fArr, Value.oneCell']
theorem Blk.cellF {W : World} {b : Nat} {c : Int} (h : Blk W b (fArr c) 83) : ∀ j, W.cell? ⟨b, j, none⟩ = #[.int .i64 c, .int .i64 0, .int .i64 0, .bool false, .float .f64 0, .string ⟨#[]⟩, .int .i64 0][j]? := h.cell
theorem as26 (n : Int) (w : World) : (Instr.typeAssert (errV n) 31 26 true).run Tryz.prog w = .ok (.tuple #[.int .i64 n, .bool true]) w := by kernel_rfl
theorem eq_nil_err (n : Int) (w : World) : (binOp .eql 31 (errV n) .nilIface).run Tryz.prog w = .ok (.bool false) w := by kernel_rfl
theorem fault0 (n : Int) (w : World) : Calls Tryz.prog 87 #[errV n] w fun e w' => e = .returned (.agg (fArr n)) ∧ Below w.heap.size w w' := by
  have h1 := as26 n
  have h2 := eq_nil_err n
  go_enter Tryz.func87, Tryz.ntmps87
  go_wp2_with (first | ((with_reducible show wpList _ _ _ (⟨_, .alloc 83, _, _, _, _⟩ :: _) _ _); refine wpList_alloc_blk rfl 83 rfl (fArr 0) zero83 ?_; intro w1 hA hL hs; clear hs) | ((with_reducible show wpList _ _ _ (⟨_, .store 83 _ _, _, _, _, _⟩ :: _) _ _); refine wpList_store_blk rfl 83 _ _ rfl _ (fArr n) _ 83 rfl rfl hA Tryz.size83 rfl (fArr_one _) ?_; intro w9 hB hO))
  exact bodyPost_ret (results_cell Tryz.results87 rfl hB Tryz.row83 Tryz.size83) rfl ⟨rfl, below_only hL hO (by simp)⟩

theorem fault_any (n : Int) (w : World) : Calls Tryz.prog 37 #[errV n] w fun e w' => e = .returned (.agg (fArr n)) ∧ Below w.heap.size w w' := by
  go_enter Tryz.func37, Tryz.ntmps37
  go_wp2_with (first | ((with_reducible show wpList _ _ _ (⟨_, .alloc 83, _, _, _, _⟩ :: _) _ _); refine wpList_alloc_blk rfl 83 rfl (fArr 0) zero83 ?_; intro w1 hA hL hs; clear hs) | (go_at_call 87; refine (fault0 n _).mono ?_; rintro e w2 ⟨rfl, hb2⟩; replace hA := hA.next hb2; replace hL := more hL hb2) | ((with_reducible show wpList _ _ _ (⟨_, .store 83 _ _, _, _, _, _⟩ :: _) _ _); refine wpList_store_blk rfl 83 _ _ rfl _ (fArr n) _ 83 rfl rfl hA Tryz.size83 rfl (fArr_one _) ?_; intro w9 hB hO))
  exact bodyPost_ret (results_cell Tryz.results37 rfl hB Tryz.row83 Tryz.size83) rfl ⟨rfl, below_only hL hO (by simp)⟩

end Go.Proofs.YtoalboilghgalaaGreatDoor
