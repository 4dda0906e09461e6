/- Lemmas for this claim, in parts: Eqs. -/
import Derived.Test.YtoalboilghgalaaGreatDoorA02
import Derived.Test.YtoalboilghgalaaGreatDoorA04
import Derived.Laws.FloatArith
import Derived.Laws.StructEq
/- '==' at the program's structs. -/
namespace Go.Proofs.YtoalboilghgalaaGreatDoor
open Go.RowKit
open Go.Proofs.Dc (V Ds Ky)

abbrev vAgg (v : V) : Value := .agg #[.int .i64 v.kind, .bool v.bool, .float .f64 v.num, .string v.str, .int .i64 v.id]
abbrev vCells (v : V) : List Value := [.int .i64 v.kind, .bool v.bool, .float .f64 v.num, .string v.str, .int .i64 v.id]
abbrev dCells (d : Ds) : List Value := vCells d.val ++ vCells d.get ++ vCells d.set ++ [.int .i64 d.w, .int .i64 d.e, .int .i64 d.c]
abbrev dAgg (d : Ds) : Value := .agg (dCells d).toArray
abbrev kAgg (k : Ky) : Value := .agg #[.string k.str, .int .i64 k.sym]

def ford (x y : Nat) : Bool := FloatKind.f64.format.order x y == some Ordering.eq
def veq (a b : V) : Bool := a.kind == b.kind && (a.bool == b.bool && (ford a.num b.num && (a.str.toList == b.str.toList && a.id == b.id)))
def keq (a b : Ky) : Bool := a.str.toList == b.str.toList && a.sym == b.sym

theorem eqf (d : Nat) (x y : Nat) (w : World) : (Op.equalIn (d + 1) 34 (.float .f64 x) (.float .f64 y)).run Tryz.prog w = .ok (ford x y) w := by
  simp [Op.equalIn, run_underlying Tryz.underlying34, ford, Op.floatEq]

theorem eqIn_v (d : Nat) (a b : V) (w : World) : (Op.equalIn (d + 2) 36 (vAgg a) (vAgg b)).run Tryz.prog w = .ok (veq a b) w := by
  obtain ⟨k, c, x, s, i⟩ := a
  obtain ⟨k', c', x', s', i'⟩ := b
  have u3 := Tryz.underlying3
  have a3 := Tryz.isAgg3
  have z3 := Tryz.sizeOf3
  have u4 := Tryz.underlying4
  have a4 := Tryz.isAgg4
  have z4 := Tryz.sizeOf4
  have u9 := Tryz.underlying9
  have a9 := Tryz.isAgg9
  have z9 := Tryz.sizeOf9
  have u34 := Tryz.underlying34
  have a34 := Tryz.isAgg34
  have z34 := Tryz.sizeOf34
  have ef := fun w => eqf d x x' w
  have hS : Tryz.prog.underlying 36 = some (.struct (Tryz.prog.fieldsOf 36)) := by kernel_rfl
  have hp : Tryz.prog.stoodInHeld 36 = false := by kernel_rfl
  rw [show d + 2 = (d + 1) + 1 from rfl, run_equalIn_agg w (d + 1) 36 _ _ hS hp]
  simp only [Program.fieldsOf, Tryz.underlying36]
  simp only [veq]
  generalize ford x x' = g at *
  go_simp
  cases g <;> by_cases h1 : k = k' <;> by_cases h2 : c = c' <;> by_cases h3 : s.toList = s'.toList <;> by_cases h4 : i = i' <;> simp [h1, h2, h3, h4]

theorem eql_v (a b : V) (w : World) : (binOp .eql 36 (vAgg a) (vAgg b)).run Tryz.prog w = .ok (.bool (veq a b)) w := by
  rw [run_eql_struct, eqIn_v 9998]; rfl

theorem eql_k (a b : Ky) (w : World) : (binOp .eql 40 (kAgg a) (kAgg b)).run Tryz.prog w = .ok (.bool (keq a b)) w := by
  obtain ⟨s, i⟩ := a
  obtain ⟨s', i'⟩ := b
  have u3 := Tryz.underlying3
  have a3 := Tryz.isAgg3
  have z3 := Tryz.sizeOf3
  have u9 := Tryz.underlying9
  have a9 := Tryz.isAgg9
  have z9 := Tryz.sizeOf9
  have hS : Tryz.prog.underlying 40 = some (.struct (Tryz.prog.fieldsOf 40)) := by kernel_rfl
  have hp : Tryz.prog.stoodInHeld 40 = false := by kernel_rfl
  rw [run_eql_struct, show (10000 : Nat) = 9999 + 1 from rfl, run_equalIn_agg w 9999 40 _ _ hS hp]
  simp only [Program.fieldsOf, Tryz.underlying40, keq]
  go_simp
  by_cases h3 : s.toList = s'.toList <;> by_cases h4 : i = i' <;> simp [h3, h4]

def deq0 (a b : Ds) : Bool := veq a.val b.val && (veq a.get b.get && (veq a.set b.set && (a.w == b.w && (a.e == b.e && a.c == b.c))))

theorem eql_d (a b : Ds) (w : World) : (binOp .eql 43 (dAgg a) (dAgg b)).run Tryz.prog w = .ok (.bool (deq0 a b)) w := by
  obtain ⟨v, g, s, x, y, z⟩ := a
  obtain ⟨v', g', s', x', y', z'⟩ := b
  have u41 := Tryz.underlying41
  have a41 := Tryz.isAgg41
  have z41 := Tryz.sizeOf41
  have a36 := Tryz.isAgg36
  have z36 := Tryz.sizeOf36
  have e1 := fun w => eqIn_v 9997 v v' w
  have e2 := fun w => eqIn_v 9997 g g' w
  have e3 := fun w => eqIn_v 9997 s s' w
  have hS : Tryz.prog.underlying 43 = some (.struct (Tryz.prog.fieldsOf 43)) := by kernel_rfl
  have hp : Tryz.prog.stoodInHeld 43 = false := by kernel_rfl
  rw [run_eql_struct, show (10000 : Nat) = 9999 + 1 from rfl, run_equalIn_agg w 9999 43 _ _ hS hp]
  simp only [Program.fieldsOf, Tryz.underlying43, deq0, dCells, vCells]
  simp only [vAgg] at e1 e2 e3
  generalize veq v v' = q1 at *
  generalize veq g g' = q2 at *
  generalize veq s s' = q3 at *
  go_simp
  cases q1 <;> cases q2 <;> cases q3 <;> by_cases h1 : x = x' <;> by_cases h2 : y = y' <;> by_cases h3 : z = z' <;> simp [h1, h2, h3]
/-! the same, cell by cell: rules that come ahead of the model's own -/
theorem eql_vv (k : Int) (c : Bool) (x : Nat) (s : ByteArray) (i : Int) (k' : Int) (c' : Bool) (x' : Nat) (s' : ByteArray) (i' : Int) (w : World) :
    (binOp .eql 36 (.agg #[.int .i64 k, .bool c, .float .f64 x, .string s, .int .i64 i]) (.agg #[.int .i64 k', .bool c', .float .f64 x', .string s', .int .i64 i'])).run Tryz.prog w = .ok (.bool (veq ⟨k, c, x, s, i⟩ ⟨k', c', x', s', i'⟩)) w := eql_v ⟨k, c, x, s, i⟩ ⟨k', c', x', s', i'⟩ w
theorem eql_kk (s : ByteArray) (i : Int) (s' : ByteArray) (i' : Int) (w : World) :
    (binOp .eql 40 (.agg #[.string s, .int .i64 i]) (.agg #[.string s', .int .i64 i'])).run Tryz.prog w = .ok (.bool (keq ⟨s, i⟩ ⟨s', i'⟩)) w := eql_k ⟨s, i⟩ ⟨s', i'⟩ w

end Go.Proofs.YtoalboilghgalaaGreatDoor
