/- Lemmas for this claim, in parts: Val1, Val2. -/
import Derived.Test.YtoalboilghgalaaGreatDoorA05
import Derived.Laws.Rows
/- Values and descriptors: what the small functions of the packages value, number and desc answer. -/
namespace Go.Proofs.YtoalboilghgalaaGreatDoor
open Go.RowKit
open Go.Proofs.Dc (V Ds Ky)

theorem one (w : World) (o : Obj) : Below w.heap.size w (w.alloc o) := (Below.refl _ _).alloc (Nat.le_refl _) o

theorem there_any (v : V) (w : World) : Calls Tryz.prog 168 #[vAgg v] w fun e w' => e = .returned (.bool (Dc.there v)) ∧ Below w.heap.size w w' := by
  obtain ⟨k, b, x, s, i⟩ := v
  go_enter Tryz.func168, Tryz.ntmps168
  go_wp2
  go_ret
  exact ⟨rfl, one _ _⟩

theorem tri_any (t : Int) (w : World) : Calls Tryz.prog 167 #[.int .i64 t] w fun e w' => e = .returned (.bool (Dc.tri t)) ∧ w = w' := by
  go_enter Tryz.func167, Tryz.ntmps167
  go_wp2
  all_goals go_ret
  all_goals refine ⟨ret_b ?_, rfl⟩
  all_goals unfold Dc.tri
  all_goals simp
  all_goals omega

theorem ford_zero {x : Nat} (hx : x < 2 ^ 64) : ford x 0 = true ↔ x = 0 ∨ x = 2 ^ 63 := Fl.feq_zero hx
theorem toList_nil {s : ByteArray} : (s.toList == ByteArray.empty.toList) = Dc.isE s := by
  rw [← beq_toListBytes]
  unfold Dc.isE
  obtain ⟨⟨l⟩⟩ := s
  cases l <;> rfl

theorem veq_zero {v : V} (hx : v.num < 2 ^ 64) : veq v Dc.v0 = true → v.num = 0 ∧ Dc.absent v = true ∨ v.num = 2 ^ 63 ∧ Dc.absent v = false := by
  intro h
  simp only [veq, Dc.v0, Bool.and_eq_true, beq_iff_eq] at h
  obtain ⟨h1, h2, h3, h4, h5⟩ := h
  have h4' : Dc.isE v.str = true := by rw [← toList_nil]; simpa using h4
  rcases (ford_zero hx).1 h3 with h | h
  · left; refine ⟨h, ?_⟩; simp [Dc.absent, h1, h2, h, h4', h5]
  · right; refine ⟨h, ?_⟩; simp [Dc.absent, h]
theorem veq_zero_not {v : V} : veq v Dc.v0 = false → Dc.absent v = false := by
  intro h
  cases ha : Dc.absent v
  · rfl
  · simp only [Dc.absent, Bool.and_eq_true, beq_iff_eq, Bool.not_eq_true'] at ha
    obtain ⟨⟨⟨⟨h1, h2⟩, h3⟩, h4⟩, h5⟩ := ha
    rw [← toList_nil] at h4
    have : veq v Dc.v0 = true := by
      simp only [veq, Dc.v0, h1, h2, h3, h5, beq_self_eq_true, Bool.true_and, Bool.and_true, h4]
      decide +kernel
    rw [this] at h; cases h

attribute [local go_sem ↓] eql_vv

set_option maxRecDepth 100000 in
set_option maxHeartbeats 1000000 in
theorem absent_any (v : V) (w : World) (hx : v.num < 2 ^ 64) : Calls Tryz.prog 165 #[vAgg v] w fun e w' => e = .returned (.bool (Dc.absent v)) ∧ Below w.heap.size w w' := by
  have hd1 := fun w : World => run_float_arith (P := Tryz.prog) (w := w) .quo 34 .f64 4607182418800017408 0 (2047 * 2 ^ 52) Fl.div_zero_pos
  have hd2 := fun w : World => run_float_arith (P := Tryz.prog) (w := w) .quo 34 .f64 4607182418800017408 (2 ^ 63) (2 ^ 63 + 2047 * 2 ^ 52) Fl.div_zero_neg
  cases hq : veq v Dc.v0
  · rw [veq_zero_not hq]
    clear hx hd1 hd2
    obtain ⟨k, c, x, s, i⟩ := v
    have hq' : veq ⟨k, c, x, s, i⟩ ⟨0, false, 0, ⟨#[]⟩, 0⟩ = false := hq
    clear hq
    go_enter Tryz.func165, Tryz.ntmps165
    go_wp2
    go_ret
    exact ⟨rfl, one _ _⟩
  · have hz := veq_zero hx hq
    obtain ⟨k, c, x, s, i⟩ := v
    have hq' : veq ⟨k, c, x, s, i⟩ ⟨0, false, 0, ⟨#[]⟩, 0⟩ = true := hq
    clear hq
    rcases hz with ⟨h, h'⟩ | ⟨h, h'⟩ <;> rw [h'] <;> clear hx h' <;> cases h
    · go_enter Tryz.func165, Tryz.ntmps165
      go_wp2
      go_ret
      exact ⟨rfl, one _ _⟩
    · go_enter Tryz.func165, Tryz.ntmps165
      go_wp2
      go_ret
      exact ⟨rfl, one _ _⟩

end Go.Proofs.YtoalboilghgalaaGreatDoor

/- value.in, value.good, value.Check. -/
namespace Go.Proofs.YtoalboilghgalaaGreatDoor
open Go.RowKit
open Go.Proofs.Dc (V Ds Ky)

/-- the value as one of the seven types -/
def boxV (v : V) : Value :=
  if v.kind = 1 then .iface 233 (.agg #[]) else if v.kind = 2 then .iface 110 (.agg #[]) else if v.kind = 3 then .iface 234 (.bool v.bool)
  else if v.kind = 4 then .iface 131 (.float .f64 v.num) else if v.kind = 5 then .iface 124 (.string v.str) else if v.kind = 6 then .iface 235 (.int .i64 v.id) else .iface 120 (.int .i64 v.id)
def inV (v : V) : Value := if Dc.vin uvalid v then boxV v else .nilIface

/-- a cell of a block that was made just before -/
theorem box_cell {w w1 : World} {C : Array Value} {t : TypeId} (hb : Below (w.alloc (.cells C t)).heap.size (w.alloc (.cells C t)) w1) (j : Nat) : w1.cell? ⟨w.heap.size, j, none⟩ = C[j]? :=
  (hb.cell (p := ⟨w.heap.size, j, none⟩) (by simp)).trans (cell_of_row _ _ _ _ _ _ (heap_alloc_new w _))

theorem ret_v {a b : Value} (h : a = b) : Ending.returned a = .returned b := by rw [h]

set_option maxRecDepth 100000 in
set_option maxHeartbeats 1000000 in
theorem in_any (v : V) (w : World) (hT : Tabs w) : Calls Tryz.prog 128 #[vAgg v] w fun e w' => e = .returned (inV v) ∧ Below w.heap.size w w' := by
  obtain ⟨k, c, x, s, i⟩ := v
  obtain ⟨Y, hY⟩ : ∃ Y, inV ⟨k, c, x, s, i⟩ = Y := ⟨_, rfl⟩
  rw [hY]
  have HY := Lib.hid hY
  clear hY
  by_cases h5 : k = 5
  · subst h5
    by_cases hs : s.size ≤ 1048576
    · have hs' : (s.size : Int) ≤ 1048576 := by omega
      have c0 : ∀ W, Below w.heap.size w W → Calls Tryz.prog 12 #[.string s] W fun e w' => e = .returned (.bool (uvalid s)) ∧ Below W.heap.size W w' := fun W hW => valid_any s W (hT.below hW) (by omega)
      cases hv : uvalid s <;> simp only [hv] at c0
      · have HV := Lib.hid hv
        clear hv hT
        go_enter Tryz.func128, Tryz.ntmps128
        go_wp2_with (go_at_call 12; refine (c0 _ (one _ _)).mono ?_; rintro e w1 ⟨rfl, hb⟩)
        go_ret
        exact ⟨ret_v (by rw [← HY.out]; simp [inV, Dc.vin, HV.out]), more (one _ _) hb⟩
      · have HV := Lib.hid hv
        clear hv hT
        go_enter Tryz.func128, Tryz.ntmps128
        go_wp2_with (go_at_call 12; refine (c0 _ (one _ _)).mono ?_; rintro e w1 ⟨rfl, hb⟩; have hc3 := box_cell hb 3)
        go_ret
        exact ⟨ret_v (by rw [← HY.out]; simp [inV, Dc.vin, HV.out, hs, boxV]), more (one _ _) hb⟩
    · have hs' : ¬ (s.size : Int) ≤ 1048576 := by omega
      go_enter Tryz.func128, Tryz.ntmps128
      go_wp2
      go_ret
      exact ⟨ret_v (by rw [← HY.out]; simp [inV, Dc.vin, hs]), one _ _⟩
  · go_enter Tryz.func128, Tryz.ntmps128
    go_wp2
    all_goals go_ret
    all_goals refine ⟨ret_v ?_, one _ _⟩
    all_goals rw [← HY.out]
    all_goals simp only [inV, Dc.vin, boxV, h5, if_false]
    all_goals simp_all
    all_goals omega

end Go.Proofs.YtoalboilghgalaaGreatDoor
