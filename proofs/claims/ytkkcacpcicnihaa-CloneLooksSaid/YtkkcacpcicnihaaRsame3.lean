import Derived.Test.YtkkcacpcicnihaaRsame2
import Derived.Test.YtkkcacpcicnihaaLater
namespace Go.Proofs.Ytkkcacpcicnihaa
open Go.RowKit
open Go.Proofs.Cl
open Go.Proofs

attribute [local go_sem] store_float equalIn_float floatEq_zero

set_option maxRecDepth 100000 in
set_option maxHeartbeats 2000000 in
theorem rsame_tf (a b : V) (A B : Option Addr) (ca cb : Nat) (r s : List Nat) (n m : Nat) (w : World)
    (h1 : isObj n a = true) (h2 : isObj m b = false) :
    Calls Try.prog 23 #[vAgg a, .slice A r.length ca, .int .i64 (n : Int), vAgg b, .slice B s.length cb, .int .i64 (m : Int)] w fun e w' => e = .returned (.bool false) ∧ Below w.heap.size w w' := by
  have T0 := Lib.hid (Two.new w a b)
  go_enter Try.func23, Try.ntmps23
  go_wp2_with fail
  refine (object_yes n a _ h1).mono ?_
  rintro e w1 ⟨rfl, hb1⟩
  have T1 := T0.out.keep hb1
  have T1' := Lib.hid T1
  clear hb1 T0
  obtain ⟨x1, x2, x3, x4, x5, y1, y2, y3, y4, y5, _, hz1⟩ := T1
  go_wp2_with fail
  have f1 := Later.cell x1
  have f2 := Later.cell x2
  have f3 := Later.cell x3
  have f4 := Later.cell x4
  have f5 := Later.cell x5
  have g1 := Later.cell y1
  have g2 := Later.cell y2
  have g3 := Later.cell y3
  have g4 := Later.cell y4
  have g5 := Later.cell y5
  clear x1 x2 x3 x4 x5 y1 y2 y3 y4 y5
  refine Later.region (by kernel_rfl) (by kernel_rfl) ?_
  repeat (go_big_quiet_step (first | (go_at_call 31; with_reducible exact Later.call (object_yes n a _ h1)) | (go_at_call 31; with_reducible exact Later.call (object_no m b _ h2))))
  refine wpQuiet_nil ?_
  rintro _ ⟨⟨w2, hb2⟩, rfl⟩
  have HB := Lib.hid (T1'.out.below_.trans (hb2.mono (by omega)))
  clear hb2
  go_wp2
  go_ret
  exact ⟨rfl, HB.out⟩

set_option maxRecDepth 100000 in
set_option maxHeartbeats 2000000 in
theorem rsame_ft (a b : V) (A B : Option Addr) (ca cb : Nat) (r s : List Nat) (n m : Nat) (w : World)
    (h1 : isObj n a = false) (h2 : isObj m b = true) :
    Calls Try.prog 23 #[vAgg a, .slice A r.length ca, .int .i64 (n : Int), vAgg b, .slice B s.length cb, .int .i64 (m : Int)] w fun e w' => e = .returned (.bool false) ∧ Below w.heap.size w w' := by
  have T0 := Lib.hid (Two.new w a b)
  go_enter Try.func23, Try.ntmps23
  go_wp2_with fail
  refine (object_no n a _ h1).mono ?_
  rintro e w1 ⟨rfl, hb1⟩
  have T1 := T0.out.keep hb1
  have T1' := Lib.hid T1
  clear hb1 T0
  obtain ⟨x1, x2, x3, x4, x5, y1, y2, y3, y4, y5, _, hz1⟩ := T1
  go_wp2_with fail
  clear x1 x2 x3 x4 x5 y1 y2 y3 y4 y5
  refine (object_yes m b _ h2).mono ?_
  rintro e w2 ⟨rfl, hb1⟩
  have T1 := T1'.out.keep hb1
  have T2' := Lib.hid T1
  clear hb1 T1'
  obtain ⟨x1, x2, x3, x4, x5, y1, y2, y3, y4, y5, _, hz2⟩ := T1
  go_wp2_with fail
  have f1 := Later.cell x1
  have f2 := Later.cell x2
  have f3 := Later.cell x3
  have f4 := Later.cell x4
  have f5 := Later.cell x5
  have g1 := Later.cell y1
  have g2 := Later.cell y2
  have g3 := Later.cell y3
  have g4 := Later.cell y4
  have g5 := Later.cell y5
  clear x1 x2 x3 x4 x5 y1 y2 y3 y4 y5
  refine Later.region (by kernel_rfl) (by kernel_rfl) ?_
  repeat (go_big_quiet_step (first | (go_at_call 31; with_reducible exact Later.call (object_no n a _ h1)) | (go_at_call 31; with_reducible exact Later.call (object_yes m b _ h2))))
  refine wpQuiet_nil ?_
  rintro _ ⟨⟨w3, hb2⟩, rfl⟩
  have HB := Lib.hid (T2'.out.below_.trans (hb2.mono (by omega)))
  clear hb2
  go_wp2
  go_ret
  exact ⟨rfl, HB.out⟩

end Go.Proofs.Ytkkcacpcicnihaa
