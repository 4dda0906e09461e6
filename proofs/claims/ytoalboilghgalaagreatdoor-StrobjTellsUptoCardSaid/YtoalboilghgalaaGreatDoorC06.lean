/- Lemmas for this claim, in parts: Eqs, Val1, Val2. -/
import Derived.Test.YtoalboilghgalaaGreatDoorC03
import Derived.Test.YtoalboilghgalaaGreatDoorC05
import Derived.Laws.FloatArith
import Derived.Laws.StructEq
import Derived.Laws.Rows
set_option maxRecDepth 100000
set_option maxHeartbeats 4000000
set_option linter.unusedVariables false
set_option linter.unusedSimpArgs false
/- '==' at the program's structs. -/
namespace Go.Proofs.YtoalboilghgalaaGreatDoor
open Go.RowKit
open Go.Proofs.Dc (V Ds Ky)

abbrev vAgg (v : V) : Value := .agg #[.int .i64 v.kind, .bool v.bool, .float .f64 v.num, .string v.str, .int .i64 v.id]
abbrev vCells (v : V) : List Value := [.int .i64 v.kind, .bool v.bool, .float .f64 v.num, .string v.str, .int .i64 v.id]
abbrev dCells (d : Ds) : List Value := vCells d.val ++ vCells d.get ++ vCells d.set ++ [.int .i64 d.w, .int .i64 d.e, .int .i64 d.c]
abbrev dAgg (d : Ds) : Value := .agg (dCells d).toArray
abbrev kAgg (k : Ky) : Value := .agg #[.string k.str, .int .i64 k.sym]

def ford (x y : Nat) : Bool := FloatKind.f64.format.order x y == some Ordering.eq
def veq (a b : V) : Bool := a.kind == b.kind && (a.bool == b.bool && (ford a.num b.num && (a.str.toList == b.str.toList && a.id == b.id)))
def keq (a b : Ky) : Bool := a.str.toList == b.str.toList && a.sym == b.sym

theorem eqf (d : Nat) (x y : Nat) (w : World) : (Op.equalIn (d + 1) 34 (.float .f64 x) (.float .f64 y)).run Tryz.prog w = .ok (ford x y) w := by
  simp [Op.equalIn, run_underlying Tryz.underlying34, ford, Op.floatEq]

theorem eqIn_v (d : Nat) (a b : V) (w : World) : (Op.equalIn (d + 2) 36 (vAgg a) (vAgg b)).run Tryz.prog w = .ok (veq a b) w := by
  obtain ⟨k, c, x, s, i⟩ := a
  obtain ⟨k', c', x', s', i'⟩ := b
  have u3 := Tryz.underlying3
  have a3 := Tryz.isAgg3
  have z3 := Tryz.sizeOf3
  have u4 := Tryz.underlying4
  have a4 := Tryz.isAgg4
  have z4 := Tryz.sizeOf4
  have u9 := Tryz.underlying9
  have a9 := Tryz.isAgg9
  have z9 := Tryz.sizeOf9
  have u34 := Tryz.underlying34
  have a34 := Tryz.isAgg34
  have z34 := Tryz.sizeOf34
  have ef := fun w => eqf d x x' w
  have hS : Tryz.prog.underlying 36 = some (.struct (Tryz.prog.fieldsOf 36)) := by kernel_rfl
  have hp : Tryz.prog.stoodInHeld 36 = false := by kernel_rfl
  rw [show d + 2 = (d + 1) + 1 from rfl, run_equalIn_agg w (d + 1) 36 _ _ hS hp]
  simp only [Program.fieldsOf, Tryz.underlying36]
  simp only [veq]
  generalize ford x x' = g at *
  go_simp
  cases g <;> by_cases h1 : k = k' <;> by_cases h2 : c = c' <;> by_cases h3 : s.toList = s'.toList <;> by_cases h4 : i = i' <;> simp [h1, h2, h3, h4]

theorem eql_v (a b : V) (w : World) : (binOp .eql 36 (vAgg a) (vAgg b)).run Tryz.prog w = .ok (.bool (veq a b)) w := by
  rw [run_eql_struct, eqIn_v 9998]; rfl

theorem eql_k (a b : Ky) (w : World) : (binOp .eql 40 (kAgg a) (kAgg b)).run Tryz.prog w = .ok (.bool (keq a b)) w := by
  obtain ⟨s, i⟩ := a
  obtain ⟨s', i'⟩ := b
  have u3 := Tryz.underlying3
  have a3 := Tryz.isAgg3
  have z3 := Tryz.sizeOf3
  have u9 := Tryz.underlying9
  have a9 := Tryz.isAgg9
  have z9 := Tryz.sizeOf9
  have hS : Tryz.prog.underlying 40 = some (.struct (Tryz.prog.fieldsOf 40)) := by kernel_rfl
  have hp : Tryz.prog.stoodInHeld 40 = false := by kernel_rfl
  rw [run_eql_struct, show (10000 : Nat) = 9999 + 1 from rfl, run_equalIn_agg w 9999 40 _ _ hS hp]
  simp only [Program.fieldsOf, Tryz.underlying40, keq]
  go_simp
  by_cases h3 : s.toList = s'.toList <;> by_cases h4 : i = i' <;> simp [h3, h4]

def deq0 (a b : Ds) : Bool := veq a.val b.val && (veq a.get b.get && (veq a.set b.set && (a.w == b.w && (a.e == b.e && a.c == b.c))))

theorem eql_d (a b : Ds) (w : World) : (binOp .eql 43 (dAgg a) (dAgg b)).run Tryz.prog w = .ok (.bool (deq0 a b)) w := by
  obtain ⟨v, g, s, x, y, z⟩ := a
  obtain ⟨v', g', s', x', y', z'⟩ := b
  have u41 := Tryz.underlying41
  have a41 := Tryz.isAgg41
  have z41 := Tryz.sizeOf41
  have a36 := Tryz.isAgg36
  have z36 := Tryz.sizeOf36
  have e1 := fun w => eqIn_v 9997 v v' w
  have e2 := fun w => eqIn_v 9997 g g' w
  have e3 := fun w => eqIn_v 9997 s s' w
  have hS : Tryz.prog.underlying 43 = some (.struct (Tryz.prog.fieldsOf 43)) := by kernel_rfl
  have hp : Tryz.prog.stoodInHeld 43 = false := by kernel_rfl
  rw [run_eql_struct, show (10000 : Nat) = 9999 + 1 from rfl, run_equalIn_agg w 9999 43 _ _ hS hp]
  simp only [Program.fieldsOf, Tryz.underlying43, deq0, dCells, vCells]
  simp only [vAgg] at e1 e2 e3
  generalize veq v v' = q1 at *
  generalize veq g g' = q2 at *
  generalize veq s s' = q3 at *
  go_simp
  cases q1 <;> cases q2 <;> cases q3 <;> by_cases h1 : x = x' <;> by_cases h2 : y = y' <;> by_cases h3 : z = z' <;> simp [h1, h2, h3]
/-! the same, cell by cell: rules that come ahead of the model's own -/
theorem eql_vv (k : Int) (c : Bool) (x : Nat) (s : ByteArray) (i : Int) (k' : Int) (c' : Bool) (x' : Nat) (s' : ByteArray) (i' : Int) (w : World) :
    (binOp .eql 36 (.agg #[.int .i64 k, .bool c, .float .f64 x, .string s, .int .i64 i]) (.agg #[.int .i64 k', .bool c', .float .f64 x', .string s', .int .i64 i'])).run Tryz.prog w = .ok (.bool (veq ⟨k, c, x, s, i⟩ ⟨k', c', x', s', i'⟩)) w := eql_v ⟨k, c, x, s, i⟩ ⟨k', c', x', s', i'⟩ w
theorem eql_kk (s : ByteArray) (i : Int) (s' : ByteArray) (i' : Int) (w : World) :
    (binOp .eql 40 (.agg #[.string s, .int .i64 i]) (.agg #[.string s', .int .i64 i'])).run Tryz.prog w = .ok (.bool (keq ⟨s, i⟩ ⟨s', i'⟩)) w := eql_k ⟨s, i⟩ ⟨s', i'⟩ w

end Go.Proofs.YtoalboilghgalaaGreatDoor

/- Values and descriptors: what the small functions of the packages value, number and desc answer. -/
namespace Go.Proofs.YtoalboilghgalaaGreatDoor
open Go.RowKit
open Go.Proofs.Dc (V Ds Ky)

theorem one (w : World) (o : Obj) : Below w.heap.size w (w.alloc o) := (Below.refl _ _).alloc (Nat.le_refl _) o

theorem there_any (v : V) (w : World) : Calls Tryz.prog 168 #[vAgg v] w fun e w' => e = .returned (.bool (Dc.there v)) ∧ Below w.heap.size w w' := by
  obtain ⟨k, b, x, s, i⟩ := v
  go_enter Tryz.func168, Tryz.ntmps168
  go_wp2
  go_ret
  exact ⟨rfl, one _ _⟩

theorem tri_any (t : Int) (w : World) : Calls Tryz.prog 167 #[.int .i64 t] w fun e w' => e = .returned (.bool (Dc.tri t)) ∧ w = w' := by
  go_enter Tryz.func167, Tryz.ntmps167
  go_wp2
  all_goals go_ret
  all_goals refine ⟨ret_b ?_, rfl⟩
  all_goals unfold Dc.tri
  all_goals simp
  all_goals omega

theorem ford_zero {x : Nat} (hx : x < 2 ^ 64) : ford x 0 = true ↔ x = 0 ∨ x = 2 ^ 63 := Fl.feq_zero hx
theorem toList_nil {s : ByteArray} : (s.toList == ByteArray.empty.toList) = Dc.isE s := by
  rw [← beq_toListBytes]
  unfold Dc.isE
  obtain ⟨⟨l⟩⟩ := s
  cases l <;> rfl

theorem veq_zero {v : V} (hx : v.num < 2 ^ 64) : veq v Dc.v0 = true → v.num = 0 ∧ Dc.absent v = true ∨ v.num = 2 ^ 63 ∧ Dc.absent v = false := by
  intro h
  simp only [veq, Dc.v0, Bool.and_eq_true, beq_iff_eq] at h
  obtain ⟨h1, h2, h3, h4, h5⟩ := h
  have h4' : Dc.isE v.str = true := by rw [← toList_nil]; simpa using h4
  rcases (ford_zero hx).1 h3 with h | h
  · left; refine ⟨h, ?_⟩; simp [Dc.absent, h1, h2, h, h4', h5]
  · right; refine ⟨h, ?_⟩; simp [Dc.absent, h]
theorem veq_zero_not {v : V} : veq v Dc.v0 = false → Dc.absent v = false := by
  intro h
  cases ha : Dc.absent v
  · rfl
  · simp only [Dc.absent, Bool.and_eq_true, beq_iff_eq, Bool.not_eq_true'] at ha
    obtain ⟨⟨⟨⟨h1, h2⟩, h3⟩, h4⟩, h5⟩ := ha
    rw [← toList_nil] at h4
    have : veq v Dc.v0 = true := by
      simp only [veq, Dc.v0, h1, h2, h3, h5, beq_self_eq_true, Bool.true_and, Bool.and_true, h4]
      decide +kernel
    rw [this] at h; cases h

attribute [local go_sem ↓] eql_vv

set_option maxRecDepth 100000 in
set_option maxHeartbeats 1000000 in
theorem absent_any (v : V) (w : World) (hx : v.num < 2 ^ 64) : Calls Tryz.prog 165 #[vAgg v] w fun e w' => e = .returned (.bool (Dc.absent v)) ∧ Below w.heap.size w w' := by
  have hd1 := fun w : World => run_float_arith (P := Tryz.prog) (w := w) .quo 34 .f64 4607182418800017408 0 (2047 * 2 ^ 52) Fl.div_zero_pos
  have hd2 := fun w : World => run_float_arith (P := Tryz.prog) (w := w) .quo 34 .f64 4607182418800017408 (2 ^ 63) (2 ^ 63 + 2047 * 2 ^ 52) Fl.div_zero_neg
  cases hq : veq v Dc.v0
  · rw [veq_zero_not hq]
    clear hx hd1 hd2
    obtain ⟨k, c, x, s, i⟩ := v
    have hq' : veq ⟨k, c, x, s, i⟩ ⟨0, false, 0, ⟨#[]⟩, 0⟩ = false := hq
    clear hq
    go_enter Tryz.func165, Tryz.ntmps165
    go_wp2
    go_ret
    exact ⟨rfl, one _ _⟩
  · have hz := veq_zero hx hq
    obtain ⟨k, c, x, s, i⟩ := v
    have hq' : veq ⟨k, c, x, s, i⟩ ⟨0, false, 0, ⟨#[]⟩, 0⟩ = true := hq
    clear hq
    rcases hz with ⟨h, h'⟩ | ⟨h, h'⟩ <;> rw [h'] <;> clear hx h' <;> cases h
    · go_enter Tryz.func165, Tryz.ntmps165
      go_wp2
      go_ret
      exact ⟨rfl, one _ _⟩
    · go_enter Tryz.func165, Tryz.ntmps165
      go_wp2
      go_ret
      exact ⟨rfl, one _ _⟩

end Go.Proofs.YtoalboilghgalaaGreatDoor

/- value.in, value.good, value.Check. -/
namespace Go.Proofs.YtoalboilghgalaaGreatDoor
open Go.RowKit
open Go.Proofs.Dc (V Ds Ky)

/-- the value as one of the seven types -/
def boxV (v : V) : Value :=
  if v.kind = 1 then .iface 233 (.agg #[]) else if v.kind = 2 then .iface 110 (.agg #[]) else if v.kind = 3 then .iface 234 (.bool v.bool)
  else if v.kind = 4 then .iface 131 (.float .f64 v.num) else if v.kind = 5 then .iface 124 (.string v.str) else if v.kind = 6 then .iface 235 (.int .i64 v.id) else .iface 120 (.int .i64 v.id)
def inV (v : V) : Value := if Dc.vin uvalid v then boxV v else .nilIface

/-- a cell of a block that was made just before -/
theorem box_cell {w w1 : World} {C : Array Value} {t : TypeId} (hb : Below (w.alloc (.cells C t)).heap.size (w.alloc (.cells C t)) w1) (j : Nat) : w1.cell? ⟨w.heap.size, j, none⟩ = C[j]? :=
  (hb.cell (p := ⟨w.heap.size, j, none⟩) (by simp)).trans (cell_of_row _ _ _ _ _ _ (heap_alloc_new w _))

theorem ret_v {a b : Value} (h : a = b) : Ending.returned a = .returned b := by rw [h]

set_option maxRecDepth 100000 in
set_option maxHeartbeats 1000000 in
theorem in_any (v : V) (w : World) (hT : Tabs w) : Calls Tryz.prog 128 #[vAgg v] w fun e w' => e = .returned (inV v) ∧ Below w.heap.size w w' := by
  obtain ⟨k, c, x, s, i⟩ := v
  obtain ⟨Y, hY⟩ : ∃ Y, inV ⟨k, c, x, s, i⟩ = Y := ⟨_, rfl⟩
  rw [hY]
  have HY := Lib.hid hY
  clear hY
  by_cases h5 : k = 5
  · subst h5
    by_cases hs : s.size ≤ 1048576
    · have hs' : (s.size : Int) ≤ 1048576 := by omega
      have c0 : ∀ W, Below w.heap.size w W → Calls Tryz.prog 12 #[.string s] W fun e w' => e = .returned (.bool (uvalid s)) ∧ Below W.heap.size W w' := fun W hW => valid_any s W (hT.below hW) (by omega)
      cases hv : uvalid s <;> simp only [hv] at c0
      · have HV := Lib.hid hv
        clear hv hT
        go_enter Tryz.func128, Tryz.ntmps128
        go_wp2_with (go_at_call 12; refine (c0 _ (one _ _)).mono ?_; rintro e w1 ⟨rfl, hb⟩)
        go_ret
        exact ⟨ret_v (by rw [← HY.out]; simp [inV, Dc.vin, HV.out]), more (one _ _) hb⟩
      · have HV := Lib.hid hv
        clear hv hT
        go_enter Tryz.func128, Tryz.ntmps128
        go_wp2_with (go_at_call 12; refine (c0 _ (one _ _)).mono ?_; rintro e w1 ⟨rfl, hb⟩; have hc3 := box_cell hb 3)
        go_ret
        exact ⟨ret_v (by rw [← HY.out]; simp [inV, Dc.vin, HV.out, hs, boxV]), more (one _ _) hb⟩
    · have hs' : ¬ (s.size : Int) ≤ 1048576 := by omega
      go_enter Tryz.func128, Tryz.ntmps128
      go_wp2
      go_ret
      exact ⟨ret_v (by rw [← HY.out]; simp [inV, Dc.vin, hs]), one _ _⟩
  · go_enter Tryz.func128, Tryz.ntmps128
    go_wp2
    all_goals go_ret
    all_goals refine ⟨ret_v ?_, one _ _⟩
    all_goals rw [← HY.out]
    all_goals simp only [inV, Dc.vin, boxV, h5, if_false]
    all_goals simp_all
    all_goals omega

end Go.Proofs.YtoalboilghgalaaGreatDoor
