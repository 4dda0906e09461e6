import Derived.Test.YtkkcacpcicnihaaDesc
import Derived.Maps.RangeWalk
namespace Go.Proofs.Ytkkcacpcicnihaa
open Go.RowKit
open Go.Proofs.Cl

attribute [local go_sem] store_float

/-- a shape's cells, by its parts -/
abbrev hCells (c : Int) (v : V) (x : Bool) (A : Option Addr) (l cap : Nat) : List Value :=
  [.int .i64 c, .int .i64 v.kind, .bool v.bool, .float .f64 v.num, .string v.str, .int .i64 v.id, .bool x, .slice A l cap]
abbrev hAgg (c : Int) (v : V) (x : Bool) (A : Option Addr) (l cap : Nat) : Value :=
  .agg #[.int .i64 c, .int .i64 v.kind, .bool v.bool, .float .f64 v.num, .string v.str, .int .i64 v.id, .bool x, .slice A l cap]

abbrev w22 (w : World) (n m b0 b1 : Nat) (P Q : List Value) : World :=
  ((w.alloc (.cells (mCells n m b0 b1) 63)).alloc (.cells P.toArray 51)).alloc (.cells Q.toArray 51)

/-- the boxes of a call, and that nothing older has turned -/
structure W22 (w : World) (n m b0 b1 : Nat) (P Q : List Value) (w' : World) : Prop where
  m : MatchAt w' w.heap.size n m b0 b1
  one : w'.rangeAt (w.heap.size + 1) 0 P
  two : w'.rangeAt (w.heap.size + 1 + 1) 0 Q
  below : Below w.heap.size w w'
  size : w.heap.size + 3 ≤ w'.heap.size

theorem W22.keep {w : World} {n m b0 b1 : Nat} {P Q : List Value} {w' w'' : World} (h : W22 w n m b0 b1 P Q w') (hb : Below w'.heap.size w' w'') : W22 w n m b0 b1 P Q w'' := by
  have := h.size
  exact ⟨h.m.below hb (by omega), rangeAt_below h.one hb (by omega), rangeAt_below h.two hb (by omega), h.below.trans (hb.mono (by omega)), Nat.le_trans this hb.size⟩

theorem W22.new (w : World) (n m b0 b1 : Nat) (P Q : List Value) : W22 w n m b0 b1 P Q (w22 w n m b0 b1 P Q) where
  m := ((matchAt_new w n m b0 b1 63).below ((Below.refl _ _).alloc (Nat.le_refl _) _) (by simp)).below ((Below.refl _ _).alloc (Nat.le_refl _) _) (by simp; omega)
  one := rangeAt_alloc (rangeAt_new _ P.toArray 51 _ (by simp)) (by simp) _
  two := rangeAt_new _ Q.toArray 51 _ (by simp)
  below := (((Below.refl _ _).alloc (Nat.le_refl _) _).alloc (by simp) _).alloc (by simp; omega) _
  size := by simp

set_option maxRecDepth 100000 in
set_option maxHeartbeats 4000000 in
theorem shapes_no (n m b0 b1 : Nat) (r s : List Nat) (c c' : Int) (v v' : V) (x x' : Bool) (A B : Option Addr) (l l' cp cq : Nat) (w : World) (hm0 : IMap w b0 r.length (idxMap r r.length)) (hm1 : IMap w b1 s.length (idxMap s s.length)) (hn : n ≤ 200) (hm : m ≤ 200)
    (hr : Cl.Good n r) (hs : Cl.Good m s) (hne : ¬ (c = c' ∧ x = x' ∧ l = l')) :
    Calls Try.prog 22 #[mAgg n m b0 b1, hAgg c v x A l cp, hAgg c' v' x' B l' cq] w fun e w' => e = .returned (.bool false) ∧ Below w.heap.size w w' := by
  have M0 := Lib.hid hm0
  have M1 := Lib.hid hm1
  have HR := Lib.hid hr
  have HS := Lib.hid hs
  clear hm0 hm1 hr hs
  by_cases h1 : c = c'
  · subst h1
    by_cases h2 : x = x'
    · subst h2
      have h3 : ((l : Int) == (l' : Int)) = false := by
        have : l ≠ l' := fun e => hne ⟨rfl, rfl, e⟩
        exact beq_eq_false_iff_ne.2 (by omega)
      clear hne
      go_enter Try.func22, Try.ntmps22
      have T0 := W22.new w n m b0 b1 (hCells c v x A l cp) (hCells c v' x B l' cq)
      have T0' := Lib.hid T0
      have x0 := T0.one 0 _ rfl
      have x1 := T0.one 1 _ rfl
      have x2 := T0.one 2 _ rfl
      have x3 := T0.one 3 _ rfl
      have x4 := T0.one 4 _ rfl
      have x5 := T0.one 5 _ rfl
      have x6 := T0.one 6 _ rfl
      have x7 := T0.one 7 _ rfl
      have y0 := T0.two 0 _ rfl
      have y1 := T0.two 1 _ rfl
      have y2 := T0.two 2 _ rfl
      have y3 := T0.two 3 _ rfl
      have y4 := T0.two 4 _ rfl
      have y5 := T0.two 5 _ rfl
      have y6 := T0.two 6 _ rfl
      have y7 := T0.two 7 _ rfl
      obtain ⟨m1, m2, m3, m4⟩ := T0.m
      clear T0
      simp only [Nat.zero_add] at x0 x1 x2 x3 x4 x5 x6 x7 y0 y1 y2 y3 y4 y5 y6 y7
      go_wp2_with (go_at_call 21; refine (psame_any n m b0 b1 r s v v' _ (IMap.below M0.out T0'.out.below) (IMap.below M1.out T0'.out.below) hn hm HR.out HS.out).mono ?_; rintro e w2 ⟨rfl, hb2⟩; have T2 := Lib.hid (T0'.out.keep hb2); clear hb2 x0 x1 x2 x3 x4 x5 x6 x7 y0 y1 y2 y3 y4 y5 y6 y7 m1 m2 m3 m4; have x7 := T2.out.one 7 _ rfl; have y7 := T2.out.two 7 _ rfl; simp only [Nat.zero_add] at x7 y7)
      all_goals go_ret
      all_goals exact ⟨rfl, T2.out.below⟩
    · have h3 : (x == x') = false := beq_eq_false_iff_ne.2 h2
      clear hne h2
      go_enter Try.func22, Try.ntmps22
      have T0 := W22.new w n m b0 b1 (hCells c v x A l cp) (hCells c v' x' B l' cq)
      have T0' := Lib.hid T0
      have x0 := T0.one 0 _ rfl
      have x1 := T0.one 1 _ rfl
      have x2 := T0.one 2 _ rfl
      have x3 := T0.one 3 _ rfl
      have x4 := T0.one 4 _ rfl
      have x5 := T0.one 5 _ rfl
      have x6 := T0.one 6 _ rfl
      have x7 := T0.one 7 _ rfl
      have y0 := T0.two 0 _ rfl
      have y1 := T0.two 1 _ rfl
      have y2 := T0.two 2 _ rfl
      have y3 := T0.two 3 _ rfl
      have y4 := T0.two 4 _ rfl
      have y5 := T0.two 5 _ rfl
      have y6 := T0.two 6 _ rfl
      have y7 := T0.two 7 _ rfl
      obtain ⟨m1, m2, m3, m4⟩ := T0.m
      clear T0
      simp only [Nat.zero_add] at x0 x1 x2 x3 x4 x5 x6 x7 y0 y1 y2 y3 y4 y5 y6 y7
      go_wp2_with (go_at_call 21; refine (psame_any n m b0 b1 r s v v' _ (IMap.below M0.out T0'.out.below) (IMap.below M1.out T0'.out.below) hn hm HR.out HS.out).mono ?_; rintro e w2 ⟨rfl, hb2⟩; have T2 := Lib.hid (T0'.out.keep hb2); clear hb2 x0 x1 x2 x3 x4 x5 x6 x7 y0 y1 y2 y3 y4 y5 y6 y7 m1 m2 m3 m4; have x7 := T2.out.one 7 _ rfl; have y7 := T2.out.two 7 _ rfl; simp only [Nat.zero_add] at x7 y7)
      all_goals go_ret
      all_goals exact ⟨rfl, T0'.out.below⟩
  · have h3 : (c == c') = false := beq_eq_false_iff_ne.2 h1
    clear hne
    go_enter Try.func22, Try.ntmps22
    have T0 := W22.new w n m b0 b1 (hCells c v x A l cp) (hCells c' v' x' B l' cq)
    have T0' := Lib.hid T0
    have x0 := T0.one 0 _ rfl
    have x1 := T0.one 1 _ rfl
    have x2 := T0.one 2 _ rfl
    have x3 := T0.one 3 _ rfl
    have x4 := T0.one 4 _ rfl
    have x5 := T0.one 5 _ rfl
    have x6 := T0.one 6 _ rfl
    have x7 := T0.one 7 _ rfl
    have y0 := T0.two 0 _ rfl
    have y1 := T0.two 1 _ rfl
    have y2 := T0.two 2 _ rfl
    have y3 := T0.two 3 _ rfl
    have y4 := T0.two 4 _ rfl
    have y5 := T0.two 5 _ rfl
    have y6 := T0.two 6 _ rfl
    have y7 := T0.two 7 _ rfl
    obtain ⟨m1, m2, m3, m4⟩ := T0.m
    clear T0
    simp only [Nat.zero_add] at x0 x1 x2 x3 x4 x5 x6 x7 y0 y1 y2 y3 y4 y5 y6 y7
    go_wp2_with (go_at_call 21; refine (psame_any n m b0 b1 r s v v' _ (IMap.below M0.out T0'.out.below) (IMap.below M1.out T0'.out.below) hn hm HR.out HS.out).mono ?_; rintro e w2 ⟨rfl, hb2⟩; have T2 := Lib.hid (T0'.out.keep hb2); clear hb2 x0 x1 x2 x3 x4 x5 x6 x7 y0 y1 y2 y3 y4 y5 y6 y7 m1 m2 m3 m4; have x7 := T2.out.one 7 _ rfl; have y7 := T2.out.two 7 _ rfl; simp only [Nat.zero_add] at x7 y7)
    all_goals go_ret
    all_goals exact ⟨rfl, T0'.out.below⟩

end Go.Proofs.Ytkkcacpcicnihaa
