/- Lemmas for this claim, in parts: Open1, Good. -/
import Derived.Test.YtoalboilghgalaaGreatDoorC06
import Derived.Laws.Externs
set_option maxRecDepth 100000
set_option maxHeartbeats 4000000
set_option linter.unusedVariables false
set_option linter.unusedSimpArgs false
/- The seven types of values: open. -/
namespace Go.Proofs.YtoalboilghgalaaGreatDoor
open Go.RowKit
open Go.Proofs.Dc (V Ds Ky)

theorem run_store_float {P : Program} {w : World} {a : Addr} {m : Mode} (k : FloatKind) (x : Nat) : (store a (.float k x) m).run P w = stored P w a (.float k x) m := run_store P w a _ m rfl
attribute [local go_sem] run_store_float
attribute [local go_sem ↓] eql_vv

theorem bits_any (x : Nat) (w : World) : (callFunc 100 #[.float .f64 x]).run Tryz.prog w = .ok (.value (.int .u64 x)) w := by
  rw [run_callFunc_extern (e := Extern.MathFloatBits.float64bits) Tryz.func100 (by kernel_rfl) (by kernel_rfl) (by kernel_rfl) (by kernel_rfl)]
  rfl

theorem open1 (w : World) : (method 451 233 (.agg #[]) "cameo/value.open").run Tryz.prog w = .ok (240, .agg #[]) w := by kernel_rfl
theorem open2 (w : World) : (method 451 110 (.agg #[]) "cameo/value.open").run Tryz.prog w = .ok (52, .agg #[]) w := by kernel_rfl
theorem open3 (b : Bool) (w : World) : (method 451 234 (.bool b) "cameo/value.open").run Tryz.prog w = .ok (291, .bool b) w := by kernel_rfl
theorem open4 (x : Nat) (w : World) : (method 451 131 (.float .f64 x) "cameo/value.open").run Tryz.prog w = .ok (73, .float .f64 x) w := by kernel_rfl
theorem open5 (s : ByteArray) (w : World) : (method 451 124 (.string s) "cameo/value.open").run Tryz.prog w = .ok (67, .string s) w := by kernel_rfl
theorem open6 (x : Int) (w : World) : (method 451 235 (.int .i64 x) "cameo/value.open").run Tryz.prog w = .ok (292, .int .i64 x) w := by kernel_rfl
theorem open7 (x : Int) (w : World) : (method 451 120 (.int .i64 x) "cameo/value.open").run Tryz.prog w = .ok (59, .int .i64 x) w := by kernel_rfl
theorem undef_open (w : World) : Calls Tryz.prog 240 #[.agg #[]] w fun e w' => e = .returned (vAgg ⟨1, false, 0, ByteArray.empty, 0⟩) ∧ Below w.heap.size w w' := by
  go_enter Tryz.func240, Tryz.ntmps240
  go_wp2
  refine bodyPost_ret (v := vAgg ⟨1, false, 0, ByteArray.empty, 0⟩) (by simp [results, Tryz.results240, go_sem] <;> rfl) rfl ⟨rfl, ?_⟩
  repeat (first | exact Below.refl _ _ | refine Below.alloc ?_ (by simp) _)

theorem null_open (w : World) : Calls Tryz.prog 52 #[.agg #[]] w fun e w' => e = .returned (vAgg ⟨2, false, 0, ByteArray.empty, 0⟩) ∧ Below w.heap.size w w' := by
  go_enter Tryz.func52, Tryz.ntmps52
  go_wp2
  refine bodyPost_ret (v := vAgg ⟨2, false, 0, ByteArray.empty, 0⟩) (by simp [results, Tryz.results52, go_sem] <;> rfl) rfl ⟨rfl, ?_⟩
  repeat (first | exact Below.refl _ _ | refine Below.alloc ?_ (by simp) _)

theorem bool_open (b : Bool) (w : World) : Calls Tryz.prog 291 #[.bool b] w fun e w' => e = .returned (vAgg ⟨3, b, 0, ByteArray.empty, 0⟩) ∧ Below w.heap.size w w' := by
  go_enter Tryz.func291, Tryz.ntmps291
  go_wp2
  refine bodyPost_ret (v := vAgg ⟨3, b, 0, ByteArray.empty, 0⟩) (by simp [results, Tryz.results291, go_sem] <;> rfl) rfl ⟨rfl, ?_⟩
  repeat (first | exact Below.refl _ _ | refine Below.alloc ?_ (by simp) _)

theorem num_open (x : Nat) (w : World) : Calls Tryz.prog 73 #[.float .f64 x] w fun e w' => e = .returned (vAgg ⟨4, false, x, ByteArray.empty, 0⟩) ∧ Below w.heap.size w w' := by
  go_enter Tryz.func73, Tryz.ntmps73
  go_wp2
  refine bodyPost_ret (v := vAgg ⟨4, false, x, ByteArray.empty, 0⟩) (by simp [results, Tryz.results73, go_sem] <;> rfl) rfl ⟨rfl, ?_⟩
  repeat (first | exact Below.refl _ _ | refine Below.alloc ?_ (by simp) _)

theorem str_open (s : ByteArray) (w : World) : Calls Tryz.prog 67 #[.string s] w fun e w' => e = .returned (vAgg ⟨5, false, 0, s, 0⟩) ∧ Below w.heap.size w w' := by
  go_enter Tryz.func67, Tryz.ntmps67
  go_wp2
  refine bodyPost_ret (v := vAgg ⟨5, false, 0, s, 0⟩) (by simp [results, Tryz.results67, go_sem] <;> rfl) rfl ⟨rfl, ?_⟩
  repeat (first | exact Below.refl _ _ | refine Below.alloc ?_ (by simp) _)

theorem sym_open (i : Int) (w : World) : Calls Tryz.prog 292 #[.int .i64 i] w fun e w' => e = .returned (vAgg ⟨6, false, 0, ByteArray.empty, i⟩) ∧ Below w.heap.size w w' := by
  go_enter Tryz.func292, Tryz.ntmps292
  go_wp2
  refine bodyPost_ret (v := vAgg ⟨6, false, 0, ByteArray.empty, i⟩) (by simp [results, Tryz.results292, go_sem] <;> rfl) rfl ⟨rfl, ?_⟩
  repeat (first | exact Below.refl _ _ | refine Below.alloc ?_ (by simp) _)

theorem ref_open (i : Int) (w : World) : Calls Tryz.prog 59 #[.int .i64 i] w fun e w' => e = .returned (vAgg ⟨7, false, 0, ByteArray.empty, i⟩) ∧ Below w.heap.size w w' := by
  go_enter Tryz.func59, Tryz.ntmps59
  go_wp2
  refine bodyPost_ret (v := vAgg ⟨7, false, 0, ByteArray.empty, i⟩) (by simp [results, Tryz.results59, go_sem] <;> rfl) rfl ⟨rfl, ?_⟩
  repeat (first | exact Below.refl _ _ | refine Below.alloc ?_ (by simp) _)

end Go.Proofs.YtoalboilghgalaaGreatDoor

/- value.good, value.Check. -/
namespace Go.Proofs.YtoalboilghgalaaGreatDoor
open Go.RowKit
open Go.Proofs.Dc (V Ds Ky)
attribute [local go_sem] run_store_float
attribute [local go_sem ↓] eql_vv

theorem old_cell {w w1 w2 : World} {o : Obj} {j : Nat} {u : Option Value} (hb : Below (w.alloc o).heap.size (w.alloc o) w1) (hb2 : Below w1.heap.size w1 w2) (h : w1.cell? ⟨w.heap.size, j, none⟩ = u) : ∀ o', (w2.alloc o').cell? ⟨w.heap.size, j, none⟩ = u := fun o' => by
  have h1 : w.heap.size < w1.heap.size := by have := hb.size; simp at this; omega
  have h2 := hb2.size
  rw [World.cell?_alloc_past _ _ _ (show w.heap.size < w2.heap.size by omega)]
  exact (hb2.cell (p := ⟨w.heap.size, j, none⟩) h1).trans h
theorem ret_t {a c : Value} {b d : Bool} (h : b = d) (h' : a = c) : Ending.returned (.tuple #[a, .bool b]) = .returned (.tuple #[c, .bool d]) := by rw [h, h']
theorem zint (x : Nat) : ((x : Int) == 0) = (x == 0) := by rw [Bool.eq_iff_iff]; simp
theorem isE_eq (s : ByteArray) : Dc.isE s = decide (s.toList = []) := by
  rw [← toList_nil, Bool.eq_iff_iff]
  simp

theorem good_any (v : V) (w : World) (hT : Tabs w) (_hx : v.num < 2 ^ 64) : Calls Tryz.prog 88 #[vAgg v] w fun e w' => e = .returned (.tuple #[inV v, .bool (Dc.good uvalid v)]) ∧ Below w.heap.size w w' := by
  obtain ⟨k, c, x, s, i⟩ := v
  have c0 := in_any ⟨k, c, x, s, i⟩ (w.alloc (.cells (vCells ⟨k, c, x, s, i⟩).toArray 36)) (hT.below (one _ _))
  have hB := fun x w => bits_any x w
  clear hT
  by_cases hv : Dc.vin uvalid ⟨k, c, x, s, i⟩ = true
  · have hk : k = 1 ∨ k = 2 ∨ k = 3 ∨ k = 4 ∨ k = 5 ∨ k = 6 ∨ k = 7 := by
      unfold Dc.vin at hv
      dsimp only at hv
      split at hv
      · omega
      · split at hv
        · omega
        · split at hv
          · omega
          · simp at hv; omega
    rcases hk with h | h | h | h | h | h | h <;> subst h
    · have hi : inV ⟨1, c, x, s, i⟩ = .iface 233 (.agg #[]) := by rw [inV, if_pos hv]; simp [boxV]
      have hg : Dc.good uvalid ⟨1, c, x, s, i⟩ = Dc.plain ⟨1, c, x, s, i⟩ := by rw [Dc.good, hv]; rfl
      have ho := open1
      have cO := undef_open
      obtain ⟨Y, hY⟩ : ∃ Y, Dc.good uvalid ⟨1, c, x, s, i⟩ = Y := ⟨_, rfl⟩
      rw [hi] at c0 ⊢
      rw [hY]
      have HY := Lib.hid (hY.symm.trans hg)
      clear hi hY hg hv
      go_enter Tryz.func88, Tryz.ntmps88
      go_wp2_with (first | (go_at_call 128; refine c0.mono ?_; rintro e w1 ⟨rfl, hb⟩; have hc0 := box_cell hb 0; have hc1 := box_cell hb 1; have hc2 := box_cell hb 2; have hc3 := box_cell hb 3; have hc4 := box_cell hb 4) | (go_at_call 240; go_must (refine (cO _).mono ?_; rintro e w2 ⟨rfl, hb2⟩; have hd0 := old_cell hb hb2 hc0; have hd1 := old_cell hb hb2 hc1; have hd2 := old_cell hb hb2 hc2; have hd3 := old_cell hb hb2 hc3; have hd4 := old_cell hb hb2 hc4; clear hc0 hc1 hc2 hc3 hc4)) | go_in)
      all_goals go_ret2
      all_goals refine ⟨ret_t ?_ rfl, (more (more (one _ _) hb) hb2).alloc (more (more (one _ _) hb) hb2).size _⟩
      all_goals rw [HY.out]
      all_goals simp [Dc.plain, isE_eq, zint, *]
    · have hi : inV ⟨2, c, x, s, i⟩ = .iface 110 (.agg #[]) := by rw [inV, if_pos hv]; simp [boxV]
      have hg : Dc.good uvalid ⟨2, c, x, s, i⟩ = Dc.plain ⟨2, c, x, s, i⟩ := by rw [Dc.good, hv]; rfl
      have ho := open2
      have cO := null_open
      obtain ⟨Y, hY⟩ : ∃ Y, Dc.good uvalid ⟨2, c, x, s, i⟩ = Y := ⟨_, rfl⟩
      rw [hi] at c0 ⊢
      rw [hY]
      have HY := Lib.hid (hY.symm.trans hg)
      clear hi hY hg hv
      go_enter Tryz.func88, Tryz.ntmps88
      go_wp2_with (first | (go_at_call 128; refine c0.mono ?_; rintro e w1 ⟨rfl, hb⟩; have hc0 := box_cell hb 0; have hc1 := box_cell hb 1; have hc2 := box_cell hb 2; have hc3 := box_cell hb 3; have hc4 := box_cell hb 4) | (go_at_call 52; go_must (refine (cO _).mono ?_; rintro e w2 ⟨rfl, hb2⟩; have hd0 := old_cell hb hb2 hc0; have hd1 := old_cell hb hb2 hc1; have hd2 := old_cell hb hb2 hc2; have hd3 := old_cell hb hb2 hc3; have hd4 := old_cell hb hb2 hc4; clear hc0 hc1 hc2 hc3 hc4)) | go_in)
      all_goals go_ret2
      all_goals refine ⟨ret_t ?_ rfl, (more (more (one _ _) hb) hb2).alloc (more (more (one _ _) hb) hb2).size _⟩
      all_goals rw [HY.out]
      all_goals simp [Dc.plain, isE_eq, zint, *]
    · have hi : inV ⟨3, c, x, s, i⟩ = .iface 234 (.bool c) := by rw [inV, if_pos hv]; simp [boxV]
      have hg : Dc.good uvalid ⟨3, c, x, s, i⟩ = Dc.plain ⟨3, c, x, s, i⟩ := by rw [Dc.good, hv]; rfl
      have ho := open3
      have cO := bool_open
      obtain ⟨Y, hY⟩ : ∃ Y, Dc.good uvalid ⟨3, c, x, s, i⟩ = Y := ⟨_, rfl⟩
      rw [hi] at c0 ⊢
      rw [hY]
      have HY := Lib.hid (hY.symm.trans hg)
      clear hi hY hg hv
      go_enter Tryz.func88, Tryz.ntmps88
      go_wp2_with (first | (go_at_call 128; refine c0.mono ?_; rintro e w1 ⟨rfl, hb⟩; have hc0 := box_cell hb 0; have hc1 := box_cell hb 1; have hc2 := box_cell hb 2; have hc3 := box_cell hb 3; have hc4 := box_cell hb 4) | (go_at_call 291; go_must (refine (cO _ _).mono ?_; rintro e w2 ⟨rfl, hb2⟩; have hd0 := old_cell hb hb2 hc0; have hd1 := old_cell hb hb2 hc1; have hd2 := old_cell hb hb2 hc2; have hd3 := old_cell hb hb2 hc3; have hd4 := old_cell hb hb2 hc4; clear hc0 hc1 hc2 hc3 hc4)) | go_in)
      all_goals go_ret2
      all_goals refine ⟨ret_t ?_ rfl, (more (more (one _ _) hb) hb2).alloc (more (more (one _ _) hb) hb2).size _⟩
      all_goals rw [HY.out]
      all_goals simp [Dc.plain, isE_eq, zint, *]
    · have hi : inV ⟨4, c, x, s, i⟩ = .iface 131 (.float .f64 x) := by rw [inV, if_pos hv]; simp [boxV]
      have hg : Dc.good uvalid ⟨4, c, x, s, i⟩ = Dc.plain ⟨4, c, x, s, i⟩ := by rw [Dc.good, hv]; rfl
      have ho := open4
      have cO := num_open
      obtain ⟨Y, hY⟩ : ∃ Y, Dc.good uvalid ⟨4, c, x, s, i⟩ = Y := ⟨_, rfl⟩
      rw [hi] at c0 ⊢
      rw [hY]
      have HY := Lib.hid (hY.symm.trans hg)
      clear hi hY hg hv
      go_enter Tryz.func88, Tryz.ntmps88
      go_wp2_with (first | (go_at_call 128; refine c0.mono ?_; rintro e w1 ⟨rfl, hb⟩; have hc0 := box_cell hb 0; have hc1 := box_cell hb 1; have hc2 := box_cell hb 2; have hc3 := box_cell hb 3; have hc4 := box_cell hb 4) | (go_at_call 73; go_must (refine (cO _ _).mono ?_; rintro e w2 ⟨rfl, hb2⟩; have hd0 := old_cell hb hb2 hc0; have hd1 := old_cell hb hb2 hc1; have hd2 := old_cell hb hb2 hc2; have hd3 := old_cell hb hb2 hc3; have hd4 := old_cell hb hb2 hc4; clear hc0 hc1 hc2 hc3 hc4)) | go_in)
      all_goals go_ret2
      all_goals refine ⟨ret_t ?_ rfl, (more (more (one _ _) hb) hb2).alloc (more (more (one _ _) hb) hb2).size _⟩
      all_goals rw [HY.out]
      all_goals simp [Dc.plain, isE_eq, *]
    · have hi : inV ⟨5, c, x, s, i⟩ = .iface 124 (.string s) := by rw [inV, if_pos hv]; simp [boxV]
      have hg : Dc.good uvalid ⟨5, c, x, s, i⟩ = Dc.plain ⟨5, c, x, s, i⟩ := by rw [Dc.good, hv]; rfl
      have ho := open5
      have cO := str_open
      obtain ⟨Y, hY⟩ : ∃ Y, Dc.good uvalid ⟨5, c, x, s, i⟩ = Y := ⟨_, rfl⟩
      rw [hi] at c0 ⊢
      rw [hY]
      have HY := Lib.hid (hY.symm.trans hg)
      clear hi hY hg hv
      go_enter Tryz.func88, Tryz.ntmps88
      go_wp2_with (first | (go_at_call 128; refine c0.mono ?_; rintro e w1 ⟨rfl, hb⟩; have hc0 := box_cell hb 0; have hc1 := box_cell hb 1; have hc2 := box_cell hb 2; have hc3 := box_cell hb 3; have hc4 := box_cell hb 4) | (go_at_call 67; go_must (refine (cO _ _).mono ?_; rintro e w2 ⟨rfl, hb2⟩; have hd0 := old_cell hb hb2 hc0; have hd1 := old_cell hb hb2 hc1; have hd2 := old_cell hb hb2 hc2; have hd3 := old_cell hb hb2 hc3; have hd4 := old_cell hb hb2 hc4; clear hc0 hc1 hc2 hc3 hc4)) | go_in)
      all_goals go_ret2
      all_goals refine ⟨ret_t ?_ rfl, (more (more (one _ _) hb) hb2).alloc (more (more (one _ _) hb) hb2).size _⟩
      all_goals rw [HY.out]
      all_goals simp [Dc.plain, isE_eq, zint, *]
    · have hi : inV ⟨6, c, x, s, i⟩ = .iface 235 (.int .i64 i) := by rw [inV, if_pos hv]; simp [boxV]
      have hg : Dc.good uvalid ⟨6, c, x, s, i⟩ = Dc.plain ⟨6, c, x, s, i⟩ := by rw [Dc.good, hv]; rfl
      have ho := open6
      have cO := sym_open
      obtain ⟨Y, hY⟩ : ∃ Y, Dc.good uvalid ⟨6, c, x, s, i⟩ = Y := ⟨_, rfl⟩
      rw [hi] at c0 ⊢
      rw [hY]
      have HY := Lib.hid (hY.symm.trans hg)
      clear hi hY hg hv
      go_enter Tryz.func88, Tryz.ntmps88
      go_wp2_with (first | (go_at_call 128; refine c0.mono ?_; rintro e w1 ⟨rfl, hb⟩; have hc0 := box_cell hb 0; have hc1 := box_cell hb 1; have hc2 := box_cell hb 2; have hc3 := box_cell hb 3; have hc4 := box_cell hb 4) | (go_at_call 292; go_must (refine (cO _ _).mono ?_; rintro e w2 ⟨rfl, hb2⟩; have hd0 := old_cell hb hb2 hc0; have hd1 := old_cell hb hb2 hc1; have hd2 := old_cell hb hb2 hc2; have hd3 := old_cell hb hb2 hc3; have hd4 := old_cell hb hb2 hc4; clear hc0 hc1 hc2 hc3 hc4)) | go_in)
      all_goals go_ret2
      all_goals refine ⟨ret_t ?_ rfl, (more (more (one _ _) hb) hb2).alloc (more (more (one _ _) hb) hb2).size _⟩
      all_goals rw [HY.out]
      all_goals simp [Dc.plain, isE_eq, zint, *]
    · have hi : inV ⟨7, c, x, s, i⟩ = .iface 120 (.int .i64 i) := by rw [inV, if_pos hv]; simp [boxV]
      have hg : Dc.good uvalid ⟨7, c, x, s, i⟩ = Dc.plain ⟨7, c, x, s, i⟩ := by rw [Dc.good, hv]; rfl
      have ho := open7
      have cO := ref_open
      obtain ⟨Y, hY⟩ : ∃ Y, Dc.good uvalid ⟨7, c, x, s, i⟩ = Y := ⟨_, rfl⟩
      rw [hi] at c0 ⊢
      rw [hY]
      have HY := Lib.hid (hY.symm.trans hg)
      clear hi hY hg hv
      go_enter Tryz.func88, Tryz.ntmps88
      go_wp2_with (first | (go_at_call 128; refine c0.mono ?_; rintro e w1 ⟨rfl, hb⟩; have hc0 := box_cell hb 0; have hc1 := box_cell hb 1; have hc2 := box_cell hb 2; have hc3 := box_cell hb 3; have hc4 := box_cell hb 4) | (go_at_call 59; go_must (refine (cO _ _).mono ?_; rintro e w2 ⟨rfl, hb2⟩; have hd0 := old_cell hb hb2 hc0; have hd1 := old_cell hb hb2 hc1; have hd2 := old_cell hb hb2 hc2; have hd3 := old_cell hb hb2 hc3; have hd4 := old_cell hb hb2 hc4; clear hc0 hc1 hc2 hc3 hc4)) | go_in)
      all_goals go_ret2
      all_goals refine ⟨ret_t ?_ rfl, (more (more (one _ _) hb) hb2).alloc (more (more (one _ _) hb) hb2).size _⟩
      all_goals rw [HY.out]
      all_goals simp [Dc.plain, isE_eq, zint, *]
  · have hi : inV ⟨k, c, x, s, i⟩ = .nilIface := by rw [inV, if_neg hv]
    have hg : Dc.good uvalid ⟨k, c, x, s, i⟩ = false := by
      rw [Dc.good]; simp [hv]
    rw [hi] at c0 ⊢
    rw [hg]
    clear hi hg hv
    go_enter Tryz.func88, Tryz.ntmps88
    go_wp2_with (first | (go_at_call 128; refine c0.mono ?_; rintro e w1 ⟨rfl, hb⟩) | go_in)
    go_ret2
    exact ⟨rfl, more (one _ _) hb⟩

set_option maxRecDepth 100000 in
set_option maxHeartbeats 1000000 in
theorem check_any (v : V) (w : World) (hT : Tabs w) (hx : v.num < 2 ^ 64) : Calls Tryz.prog 40 #[vAgg v] w fun e w' => e = .returned (.int .i64 (if Dc.good uvalid v then 0 else 5)) ∧ Below w.heap.size w w' := by
  have c0 := good_any v (w.alloc (.cells (vCells v).toArray 36)) (hT.below (one _ _)) hx
  generalize inV v = I at c0
  cases hg : Dc.good uvalid v <;> rw [hg] at c0 <;> clear hg hx hT
  all_goals
    obtain ⟨k, c, x, s, i⟩ := v
    go_enter Tryz.func40, Tryz.ntmps40
    go_wp2_with (first | (go_at_call 88; refine c0.mono ?_; rintro e w1 ⟨rfl, hb⟩) | go_in)
    go_ret
    exact ⟨rfl, more (one _ _) hb⟩

end Go.Proofs.YtoalboilghgalaaGreatDoor
