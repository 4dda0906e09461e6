import Derived.Test.YtkkcacpcicnihaaRsame
namespace Go.Proofs.Ytkkcacpcicnihaa
open Go.RowKit
open Go.Proofs.Cl

attribute [local go_sem] store_float equalIn_float floatEq_zero

/-- the two boxes of a call, and that nothing older has turned -/
def Two (w : World) (a b : V) (w' : World) : Prop :=
  w'.cell? ⟨w.heap.size, 0, none⟩ = some (.int .i64 a.kind) ∧ w'.cell? ⟨w.heap.size, 1, none⟩ = some (.bool a.bool) ∧ w'.cell? ⟨w.heap.size, 2, none⟩ = some (.float .f64 a.num) ∧
    w'.cell? ⟨w.heap.size, 3, none⟩ = some (.string a.str) ∧ w'.cell? ⟨w.heap.size, 4, none⟩ = some (.int .i64 a.id) ∧
  w'.cell? ⟨w.heap.size + 1, 0, none⟩ = some (.int .i64 b.kind) ∧ w'.cell? ⟨w.heap.size + 1, 1, none⟩ = some (.bool b.bool) ∧ w'.cell? ⟨w.heap.size + 1, 2, none⟩ = some (.float .f64 b.num) ∧
    w'.cell? ⟨w.heap.size + 1, 3, none⟩ = some (.string b.str) ∧ w'.cell? ⟨w.heap.size + 1, 4, none⟩ = some (.int .i64 b.id) ∧
  Below w.heap.size w w' ∧ w.heap.size + 2 ≤ w'.heap.size

theorem Two.mk_ {w w' : World} {a b : V} (hA : BoxAt w' w.heap.size a) (hB : BoxAt w' (w.heap.size + 1) b) (hb : Below w.heap.size w w') (hz : w.heap.size + 2 ≤ w'.heap.size) : Two w a b w' := by
  obtain ⟨x1, x2, x3, x4, x5⟩ := hA
  obtain ⟨y1, y2, y3, y4, y5⟩ := hB
  exact ⟨x1, x2, x3, x4, x5, y1, y2, y3, y4, y5, hb, hz⟩

theorem Two.drew {w w' : World} {a b : V} (h : Two w a b w') : Two w a b w'.drew := by
  obtain ⟨x1, x2, x3, x4, x5, y1, y2, y3, y4, y5, hb, hz⟩ := h
  exact ⟨x1, x2, x3, x4, x5, y1, y2, y3, y4, y5, hb.drew, hz⟩

theorem Two.keep {w w' w'' : World} {a b : V} (h : Two w a b w') (hb' : Below w'.heap.size w' w'') : Two w a b w'' := by
  obtain ⟨x1, x2, x3, x4, x5, y1, y2, y3, y4, y5, hb, hz⟩ := h
  exact Two.mk_ (BoxAt.below ⟨x1, x2, x3, x4, x5⟩ hb' (by omega)) (BoxAt.below ⟨y1, y2, y3, y4, y5⟩ hb' (by omega)) (hb.trans (hb'.mono (by omega))) (Nat.le_trans hz hb'.size)

theorem Two.below_ {w w' : World} {a b : V} (h : Two w a b w') : Below w.heap.size w w' := h.2.2.2.2.2.2.2.2.2.2.1

theorem Two.new (w : World) (a b : V) : Two w a b ((w.alloc (.cells (vCells a) 25)).alloc (.cells (vCells b) 25)) :=
  Two.mk_ ((boxAt_new w a 25).alloc (by simp) (.cells (vCells b) 25)) (by simpa using boxAt_new (w.alloc (.cells (vCells a) 25)) b 25) (below2 w _ _) (by simp)

theorem object_yes (n : Nat) (v : V) (w : World) (h : isObj n v = true) : Calls Try.prog 31 #[vAgg v, .int .i64 (n : Int)] w fun e w' => e = .returned (.bool true) ∧ Below w.heap.size w w' := by
  have := object_any n v w
  rwa [h] at this
theorem object_no (n : Nat) (v : V) (w : World) (h : isObj n v = false) : Calls Try.prog 31 #[vAgg v, .int .i64 (n : Int)] w fun e w' => e = .returned (.bool false) ∧ Below w.heap.size w w' := by
  have := object_any n v w
  rwa [h] at this

set_option maxRecDepth 100000 in
set_option maxHeartbeats 2000000 in
theorem rsame_tt (a b : V) (A B : Option Addr) (ca cb : Nat) (r s : List Nat) (n m : Nat) (w : World)
    (hr : NatsAt w A r) (hs : NatsAt w B s) (hlr : r.length ≤ 1000000) (hls : s.length ≤ 1000000)
    (h1 : isObj n a = true) (h2 : isObj m b = true) :
    Calls Try.prog 23 #[vAgg a, .slice A r.length ca, .int .i64 (n : Int), vAgg b, .slice B s.length cb, .int .i64 (m : Int)] w fun e w' => e = .returned (.bool (placeOf r a.id == placeOf s b.id)) ∧ Below w.heap.size w w' := by
  have T0 := Lib.hid (Two.new w a b)
  go_enter Try.func23, Try.ntmps23
  go_wp2_with fail
  refine (object_yes n a _ h1).mono ?_
  rintro e w1 ⟨rfl, hb1⟩
  have T1 := T0.out.keep hb1
  have T1' := Lib.hid T1
  clear hb1 T0
  obtain ⟨x1, x2, x3, x4, x5, y1, y2, y3, y4, y5, _, _⟩ := T1
  go_wp2_with fail
  go_region_held3 (fun w' => w'.cell? ⟨w.heap.size, 0, none⟩ = some (.int .i64 a.kind) ∧ w'.cell? ⟨w.heap.size, 1, none⟩ = some (.bool a.bool) ∧ w'.cell? ⟨w.heap.size, 2, none⟩ = some (.float .f64 a.num) ∧
    w'.cell? ⟨w.heap.size, 3, none⟩ = some (.string a.str) ∧ w'.cell? ⟨w.heap.size, 4, none⟩ = some (.int .i64 a.id) ∧
  w'.cell? ⟨w.heap.size + 1, 0, none⟩ = some (.int .i64 b.kind) ∧ w'.cell? ⟨w.heap.size + 1, 1, none⟩ = some (.bool b.bool) ∧ w'.cell? ⟨w.heap.size + 1, 2, none⟩ = some (.float .f64 b.num) ∧
    w'.cell? ⟨w.heap.size + 1, 3, none⟩ = some (.string b.str) ∧ w'.cell? ⟨w.heap.size + 1, 4, none⟩ = some (.int .i64 b.id) ∧
  Below w.heap.size w w' ∧ w.heap.size + 2 ≤ w'.heap.size) (first | exact T1'.out.drew | exact Two.keep (w' := _) (by assumption) (by assumption) | assumption)
    (first | (go_at_call 31; refine (object_yes _ _ _ (by assumption)).mono ?_; rintro e w2 ⟨rfl, hb2⟩) | (go_at_call 32; refine (place_any _ _ _ _ _ (by assumption) (NatsAt.below (by assumption) (Two.below_ (a := a) (b := b) (by assumption)))).mono ?_; rintro e w2 ⟨rfl, rfl⟩))
  all_goals go_wp2
  all_goals go_ret
  all_goals exact ⟨rfl, Two.below_ (a := a) (b := b) (by assumption)⟩

end Go.Proofs.Ytkkcacpcicnihaa
