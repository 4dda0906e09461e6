import Derived.Test.YtkkcacpcicnihaaLeaf
import Derived.Test.YtkkcacpcicnihaaFloat
import Derived.Laws.FloatArith
namespace Go.Proofs.Ytkkcacpcicnihaa
open Go.RowKit
open Go.Proofs.Cl

def isNegZero (x : Nat) : Bool := x == 2 ^ 63

theorem ff_eq : FloatKind.f64.format = Ieee.double := rfl

set_option maxHeartbeats 400000 in
theorem minus_any (x : Nat) (w : World) (hx : x < 2 ^ 64) :
    Calls Try.prog 40 #[.float .f64 x] w fun e w' => e = .returned (.bool (isNegZero x)) ∧ w = w' := by
  have hd1 := fun w : World => run_float_arith (P := Try.prog) (w := w) .quo 23 .f64 4607182418800017408 0 (2047 * 2 ^ 52) Fl.div_zero_pos
  have hd2 := fun w : World => run_float_arith (P := Try.prog) (w := w) .quo 23 .f64 4607182418800017408 (2 ^ 63) (2 ^ 63 + 2047 * 2 ^ 52) Fl.div_zero_neg
  by_cases h : Fl.feq x 0 = true
  · rcases (Fl.feq_zero hx).1 h with rfl | rfl
    · clear h hx hd2
      have h0 : FloatKind.f64.format.order 0 0 = some .eq := by decide +kernel
      go_enter Try.func40, Try.ntmps40
      go_wp2
      go_ret
      exact ⟨ret_b (by decide +kernel), rfl⟩
    · clear h hx hd1
      have h0 : FloatKind.f64.format.order 9223372036854775808 0 = some .eq := by decide +kernel
      go_enter Try.func40, Try.ntmps40
      go_wp2
      go_ret
      exact ⟨ret_b (by decide +kernel), rfl⟩
  · clear hd1 hd2
    have h0 : (FloatKind.f64.format.order x 0 == some Ordering.eq) = false := by simpa [Fl.feq, ff_eq] using h
    have hz : isNegZero x = false := by
      unfold isNegZero
      cases hh : x == 2 ^ 63
      · rfl
      · exact absurd ((Fl.feq_zero hx).2 (.inr (by simpa using hh))) h
    have HZ := Lib.hid hz
    clear h hx hz
    go_enter Try.func40, Try.ntmps40
    go_wp2
    go_ret
    exact ⟨ret_b HZ.out.symm, rfl⟩

theorem beq_some_eq (o : Option Ordering) : (o == some Ordering.eq) = decide (o = some Ordering.eq) := by
  cases o with
  | none => rfl
  | some o => cases o <;> rfl

/-- what 'Is' says of two numbers -/
theorem same_split {x y : Nat} (hx : x < 2 ^ 64) (hy : y < 2 ^ 64) :
    Fl.same x y = if Fl.fnan x || Fl.fnan y then Fl.fnan x && Fl.fnan y else Fl.feq x y && (isNegZero x == isNegZero y) := by
  unfold Fl.same
  cases hnx : Fl.fnan x <;> cases hny : Fl.fnan y
  · simp only [Bool.or_self, Bool.false_eq_true, if_false, Bool.and_false, Bool.or_false]
    rw [Bool.eq_iff_iff]
    simp only [Bool.and_eq_true, beq_iff_eq]
    rw [Fl.feq_iff hx hy]
    constructor
    · rintro rfl; exact ⟨⟨hnx, hny, .inl rfl⟩, rfl⟩
    · rintro ⟨⟨_, _, h⟩, hz⟩
      rcases h with h | ⟨h1, h2⟩
      · exact h
      · have e1 := Fl.fneg_word hx
        have e2 := Fl.fneg_word hy
        rw [h1] at e1
        rw [h2] at e2
        unfold isNegZero at hz
        cases hs1 : Fl.fneg x <;> cases hs2 : Fl.fneg y <;> rw [hs1] at e1 <;> rw [hs2] at e2 <;> simp at e1 e2 <;> subst e1 <;> subst e2 <;> first | rfl | simp at hz
  · simp only [Bool.or_true, if_true, Bool.and_true, Bool.or_false]
    cases hh : x == y
    · rfl
    · have : x = y := by simpa using hh
      subst this; rw [hnx] at hny; cases hny
  · simp only [if_true, Bool.and_false, Bool.or_false]
    cases hh : x == y
    · rfl
    · have : x = y := by simpa using hh
      subst this; rw [hnx] at hny; cases hny
  · simp

/-- a number as a value -/
abbrev numAgg (x : Nat) : Value := .agg #[.int .i64 4, .bool false, .float .f64 x, .string ByteArray.empty, .int .i64 0]

theorem order_self_nan {x : Nat} (h : Fl.fnan x = true) : FloatKind.f64.format.order x x = none := Fl.order_nan_left x h
theorem order_self_num {x : Nat} (h : Fl.fnan x = false) : FloatKind.f64.format.order x x = some .eq := by
  have := Fl.feq_self x
  rw [h] at this
  simpa [Fl.feq, ff_eq] using this

theorem quiet_l {P : Program} {f : FuncId} {args : Array Value} {w : World} {n : Nat} {v : Value}
    (h : Calls P f args (w.drewN n) fun e w' => e = .returned v ∧ w.drewN n = w') : Calls P f args (w.drewN n) fun e w'' => e = .returned v ∧ ∃ m, w'' = w.drewN m :=
  h.mono fun _ _ ⟨he, hm⟩ => ⟨he, n, hm.symm⟩

theorem below2 (w : World) (o o' : Obj) : Below w.heap.size w ((w.alloc o).alloc o') := ((Below.refl _ _).alloc (Nat.le_refl _) o).alloc (by simp) o'

set_option maxHeartbeats 1000000 in
theorem is_any (x y : Nat) (w : World) (hx : x < 2 ^ 64) (hy : y < 2 ^ 64) :
    Calls Try.prog 33 #[numAgg x, numAgg y] w fun e w' => e = .returned (.bool (Fl.same x y)) ∧ Below w.heap.size w w' := by
  have hs := same_split hx hy
  cases hnx : Fl.fnan x <;> cases hny : Fl.fnan y <;> rw [hnx, hny] at hs <;> simp only [Bool.or_self, Bool.or_true, Bool.true_or, Bool.false_eq_true, if_true, if_false, Bool.and_self, Bool.and_false, Bool.false_and] at hs
  · have o1 := order_self_num hnx
    have o2 := order_self_num hny
    clear hnx hny
    cases hq : Fl.feq x y <;> rw [hq] at hs
    · have h0 : (FloatKind.f64.format.order x y == some Ordering.eq) = false := hq
      have HS := Lib.hid hs
      clear hq hs
      go_enter Try.func33, Try.ntmps33
      go_wp2_with fail
      go_quiet (fail)
      go_wp2
      go_ret
      exact ⟨ret_b HS.out.symm, below_drewN (below2 _ _ _) _⟩
    · have h0 : (FloatKind.f64.format.order x y == some Ordering.eq) = true := hq
      have HS := Lib.hid hs
      clear hq hs
      go_enter Try.func33, Try.ntmps33
      go_wp2_with fail
      go_quiet ((go_at_call 40; refine quiet_l (minus_any _ _ ?_); assumption))
      go_wp2
      go_ret
      exact ⟨ret_b HS.out.symm, below_drewN (below2 _ _ _) _⟩
  all_goals
    have HS := Lib.hid hs
    clear hs
    first | have o1 := order_self_num hnx | have o1 := order_self_nan hnx
    first | have o2 := order_self_num hny | have o2 := order_self_nan hny
    clear hnx hny
    go_enter Try.func33, Try.ntmps33
    go_wp2
    go_ret
    exact ⟨ret_b (HS.out.trans (by simp)).symm, below2 _ _ _⟩

end Go.Proofs.Ytkkcacpcicnihaa
