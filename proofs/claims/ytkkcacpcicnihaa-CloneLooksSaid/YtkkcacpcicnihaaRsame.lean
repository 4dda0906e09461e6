import Derived.Test.YtkkcacpcicnihaaSame
import Derived.Deep.RegionHeld3
import Derived.Deep.RegionWith
import Derived.StillTactics
import Derived.Laws.Pointers
import Derived.Laws.StructEq
import Derived.Laws.Entries
namespace Go.Proofs.Ytkkcacpcicnihaa
open Go.RowKit
open Go.Proofs.Cl

/-- the last part: the same but for objects -/
def plainSame (a b : V) : Bool := a.kind == b.kind && a.bool == b.bool && a.str.toList == b.str.toList && a.id == b.id && Fl.same a.num b.num

abbrev vCells (v : V) : Array Value := #[.int .i64 v.kind, .bool v.bool, .float .f64 v.num, .string v.str, .int .i64 v.id]

/-- a value as it lies in a block of its own -/
def BoxAt (w : World) (b : Nat) (v : V) : Prop :=
  w.cell? ⟨b, 0, none⟩ = some (.int .i64 v.kind) ∧ w.cell? ⟨b, 1, none⟩ = some (.bool v.bool) ∧ w.cell? ⟨b, 2, none⟩ = some (.float .f64 v.num) ∧
    w.cell? ⟨b, 3, none⟩ = some (.string v.str) ∧ w.cell? ⟨b, 4, none⟩ = some (.int .i64 v.id)

theorem BoxAt.below {B b : Nat} {w w' : World} {v : V} (h : BoxAt w b v) (hb : Below B w w') (hlt : b < B) : BoxAt w' b v := by
  unfold BoxAt at *
  simp only [hb.cell (p := ⟨b, _, none⟩) hlt]
  exact h

theorem boxAt_new (w : World) (v : V) (t : TypeId) : BoxAt (w.alloc (.cells (vCells v) t)) w.heap.size v := by
  unfold BoxAt
  have := heap_alloc_new w (.cells (vCells v) t)
  simp [cell_of_row _ _ _ _ _ _ this]

theorem BoxAt.alloc {w : World} {b : Nat} {v : V} (h : BoxAt w b v) (hlt : b < w.heap.size) (o : Obj) : BoxAt (w.alloc o) b v :=
  h.below ((Below.refl w.heap.size w).alloc (Nat.le_refl _) o) hlt

theorem store_float (P : Program) (w : World) (a : Addr) (m : Mode) (k : FloatKind) (x : Nat) : (store a (.float k x) m).run P w = stored P w a (.float k x) m := run_store P w a _ m rfl
theorem equalIn_float {P : Program} (w : World) (d : Nat) (t : TypeId) (k k' : FloatKind) (a b : Nat) (h : P.underlying t = some (.float k')) :
    (Op.equalIn (d + 1) t (.float k a) (.float k b)).run P w = .ok (Op.floatEq k a b) w := by
  simp [Op.equalIn, run_underlying h]
theorem floatEq_zero : Op.floatEq .f64 0 0 = true := by decide +kernel
attribute [local go_sem] store_float equalIn_float floatEq_zero

set_option maxRecDepth 100000 in
set_option maxHeartbeats 2000000 in
theorem rsame_plain (a b : V) (A B : Option Addr) (ca cb : Nat) (r s : List Nat) (n m : Nat) (w : World) (ha : a.num < 2 ^ 64) (hb : b.num < 2 ^ 64)
    (h1 : isObj n a = false) (h2 : isObj m b = false) :
    Calls Try.prog 23 #[vAgg a, .slice A r.length ca, .int .i64 (n : Int), vAgg b, .slice B s.length cb, .int .i64 (m : Int)] w fun e w' => e = .returned (.bool (plainSame a b)) ∧ Below w.heap.size w w' := by
  have c1 := object_any n a
  have c2 := object_any m b
  rw [h1] at c1
  rw [h2] at c2
  have C1 := Lib.hid c1
  have C2 := Lib.hid c2
  clear c1 c2 h1 h2
  have b0 := below2 w (.cells (vCells a) 25) (.cells (vCells b) 25)
  have bA := (boxAt_new w a 25).alloc (by simp) (.cells (vCells b) 25)
  have bB : BoxAt ((w.alloc (.cells (vCells a) 25)).alloc (.cells (vCells b) 25)) (w.heap.size + 1) b := by simpa using boxAt_new (w.alloc (.cells (vCells a) 25)) b 25
  have B0 := Lib.hid b0
  have BA := Lib.hid bA
  have BB := Lib.hid bB
  clear b0 bA bB
  go_enter Try.func23, Try.ntmps23
  go_wp2_with fail
  refine (C1.out _).mono ?_
  rintro e w1 ⟨rfl, hb1⟩
  have e1 : w.heap.size + 2 ≤ w1.heap.size := by simpa using hb1.size
  have B1 := Lib.hid (B0.out.trans (hb1.mono (by first | (simp; done) | (simp; omega))))
  have BA1 := Lib.hid (BA.out.below hb1 (by first | (simp; done) | (simp; omega)))
  have BB1 := Lib.hid (BB.out.below hb1 (by first | (simp; done) | (simp; omega)))
  clear hb1 BA BB B0
  obtain ⟨x1, x2, x3, x4, x5⟩ := BA1.out
  obtain ⟨y1, y2, y3, y4, y5⟩ := BB1.out
  go_wp2_with fail
  clear x1 x2 x3 x4 x5 y1 y2 y3 y4 y5
  refine (C2.out _).mono ?_
  rintro e w2 ⟨rfl, hb2⟩
  have e2 : w.heap.size + 2 ≤ w2.heap.size := Nat.le_trans e1 hb2.size
  have B2 := Lib.hid (B1.out.trans (hb2.mono (by omega)))
  have BA2 := Lib.hid (BA1.out.below hb2 (by omega))
  have BB2 := Lib.hid (BB1.out.below hb2 (by omega))
  clear hb2 BA1 BB1 B1
  obtain ⟨x1, x2, x3, x4, x5⟩ := BA2.out
  obtain ⟨y1, y2, y3, y4, y5⟩ := BB2.out
  have n1 : w.heap.size < w2.heap.size := by omega
  have n2 : w.heap.size + 1 < w2.heap.size := by omega
  go_wp2_with fail
  case _ =>
    refine (is_any a.num b.num _ ha hb).mono ?_
    rintro e w3 ⟨rfl, hb3⟩
    have q1 : a.kind = b.kind := by assumption
    have q2 : a.bool = b.bool := by assumption
    have q3 : a.str.toList = b.str.toList := by assumption
    have q4 : a.id = b.id := by assumption
    have hfin : plainSame a b = Fl.same a.num b.num := by simp [plainSame, q1, q2, q3, q4]
    have HF := Lib.hid hfin
    have B3 := Lib.hid (((B2.out.alloc (by omega) _).alloc (by first | (simp; done) | (simp; omega)) _).trans (hb3.mono (by first | (simp; done) | (simp; omega))))
    clear q1 q2 q3 q4 hfin hb3 x1 x2 x3 x4 x5 y1 y2 y3 y4 y5
    go_wp2
    go_ret
    exact ⟨ret_b HF.out.symm, B3.out⟩
  all_goals go_ret
  all_goals refine ⟨ret_b ?_, (B2.out.alloc (by omega) _).alloc (by first | (simp; done) | (simp; omega)) _⟩
  all_goals simp [plainSame, *]

end Go.Proofs.Ytkkcacpcicnihaa
