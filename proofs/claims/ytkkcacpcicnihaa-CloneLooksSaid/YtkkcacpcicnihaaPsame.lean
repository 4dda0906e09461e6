import Derived.Test.YtkkcacpcicnihaaRsame3
import Derived.Maps.OwnSet
import Derived.Maps.OwnOps
namespace Go.Proofs.Ytkkcacpcicnihaa
open Go.RowKit Go.Maps
open Go.Proofs.Cl
open Go.Proofs

theorem law3 : Keyed Try.prog 3 := int_keyed Try.underlying3
theorem zero3 (w : World) : (zeroValue 3).run Try.prog w = .ok (.int .i64 0) w := by kernel_rfl

abbrev IMap (w : World) (b n : Nat) (D : DataW Unit) : Prop := w.ownsMap Try.prog 3 (plainElem Try.prog 3) b n D

theorem grown_of_below {a w : World} (h : Below a.heap.size a w) (row : Option Nat) : a.grownBy w row := ⟨h.os, h.tape, h.output, h.size, fun i hi _ => h.block i hi⟩

theorem IMap.below {w w' : World} {b n : Nat} {D : DataW Unit} (h : IMap w b n D) (hb : Below w.heap.size w w') : IMap w' b n D := World.ownsMap.kept h (grown_of_below hb none) (by simp)

theorem wf_nat {n : Nat} (h : n ≤ 1000000) : (Lit.int .i64 (n : Int)).wf = true := WalkArith.wf_i64 (by omega)

abbrev mAgg (n m b0 b1 : Nat) : Value := .agg #[.int .i64 (n : Int), .int .i64 (m : Int), .map (some b0), .map (some b1)]
abbrev mCells (n m b0 b1 : Nat) : Array Value := #[.int .i64 (n : Int), .int .i64 (m : Int), .map (some b0), .map (some b1)]

/-- a match as it lies in a block of its own -/
def MatchAt (w : World) (b : Nat) (n m b0 b1 : Nat) : Prop :=
  w.cell? ⟨b, 0, none⟩ = some (.int .i64 (n : Int)) ∧ w.cell? ⟨b, 1, none⟩ = some (.int .i64 (m : Int)) ∧ w.cell? ⟨b, 2, none⟩ = some (.map (some b0)) ∧ w.cell? ⟨b, 3, none⟩ = some (.map (some b1))

theorem MatchAt.below {B b n m b0 b1 : Nat} {w w' : World} (h : MatchAt w b n m b0 b1) (hb : Below B w w') (hlt : b < B) : MatchAt w' b n m b0 b1 := by
  unfold MatchAt at *
  simp only [hb.cell (p := ⟨b, _, none⟩) hlt]
  exact h

theorem matchAt_new (w : World) (n m b0 b1 : Nat) (t : TypeId) : MatchAt (w.alloc (.cells (mCells n m b0 b1) t)) w.heap.size n m b0 b1 := by
  unfold MatchAt
  have := heap_alloc_new w (.cells (mCells n m b0 b1) t)
  simp [cell_of_row _ _ _ _ _ _ this]

abbrev w3 (w : World) (n m b0 b1 : Nat) (a b : V) : World := ((w.alloc (.cells (mCells n m b0 b1) 63)).alloc (.cells (vCells a) 25)).alloc (.cells (vCells b) 25)

/-- the boxes of a call, and that nothing older has turned -/
def Three (w : World) (n m b0 b1 : Nat) (a b : V) (w' : World) : Prop :=
  MatchAt w' w.heap.size n m b0 b1 ∧ BoxAt w' (w.heap.size + 1) a ∧ BoxAt w' (w.heap.size + 1 + 1) b ∧ Below w.heap.size w w' ∧ w.heap.size + 3 ≤ w'.heap.size

theorem Three.new (w : World) (n m b0 b1 : Nat) (a b : V) : Three w n m b0 b1 a b (w3 w n m b0 b1 a b) := by
  have h1 := matchAt_new w n m b0 b1 63
  have h2 := boxAt_new (w.alloc (.cells (mCells n m b0 b1) 63)) a 25
  have h3 := boxAt_new ((w.alloc (.cells (mCells n m b0 b1) 63)).alloc (.cells (vCells a) 25)) b 25
  have s1 : (w.alloc (.cells (mCells n m b0 b1) 63)).heap.size = w.heap.size + 1 := by simp
  have s2 : ((w.alloc (.cells (mCells n m b0 b1) 63)).alloc (.cells (vCells a) 25)).heap.size = w.heap.size + 1 + 1 := by simp
  have g1 := (Below.refl w.heap.size w).alloc (Nat.le_refl _) (.cells (mCells n m b0 b1) 63)
  have g2 := (Below.refl (w.heap.size + 1) (w.alloc (.cells (mCells n m b0 b1) 63))).alloc (by omega) (.cells (vCells a) 25)
  have g3 := (Below.refl (w.heap.size + 1 + 1) ((w.alloc (.cells (mCells n m b0 b1) 63)).alloc (.cells (vCells a) 25))).alloc (by omega) (.cells (vCells b) 25)
  refine ⟨(h1.below g2 (by omega)).below g3 (by omega), ?_, ?_, (g1.trans (g2.mono (by omega))).trans (g3.mono (by omega)), by simp⟩
  · rw [s1] at h2; exact h2.below g3 (by omega)
  · rw [s2] at h3; exact h3

theorem Three.keep {w : World} {n m b0 b1 : Nat} {a b : V} {w' w'' : World} (h : Three w n m b0 b1 a b w') (hb : Below w'.heap.size w' w'') : Three w n m b0 b1 a b w'' := by
  obtain ⟨h1, h2, h3, h4, h5⟩ := h
  exact ⟨h1.below hb (by omega), h2.below hb (by omega), h3.below hb (by omega), h4.trans (hb.mono (by omega)), Nat.le_trans h5 hb.size⟩

set_option maxRecDepth 100000 in
set_option maxHeartbeats 4000000 in
theorem psame_obj (n m b0 b1 k0 k1 : Nat) (D0 D1 : DataW Unit) (a b : V) (w : World) (hm0 : IMap w b0 k0 D0) (hm1 : IMap w b1 k1 D1) (hn : n ≤ 1000000) (hm : m ≤ 1000000)
    (h : 0 < among n a) (c0 c1 : Int) (hc0 : D0.atKey (.int .i64 (among n a : Nat)) (.lit (.int .i64 0)) = .lit (.int .i64 c0)) (hc1 : D1.atKey (.int .i64 (among m b : Nat)) (.lit (.int .i64 0)) = .lit (.int .i64 c1)) :
    Calls Try.prog 21 #[mAgg n m b0 b1, vAgg a, vAgg b] w fun e w' =>
      e = .returned (.bool (Maps.has D0 (.int .i64 (among n a : Nat)) && Maps.has D1 (.int .i64 (among m b : Nat)) && (c0 == c1))) ∧ Below w.heap.size w w' := by
  have hA := among_any n a
  have hB := among_any m b
  have lA := among_le n a
  have lB := among_le m b
  generalize among n a = x at *
  generalize among m b = y at *
  have HA := Lib.hid hA
  have HB := Lib.hid hB
  have M0 := Lib.hid hm0
  have M1 := Lib.hid hm1
  have C0 := Lib.hid hc0
  have C1 := Lib.hid hc1
  clear hA hB hm0 hm1 hc0 hc1
  go_enter Try.func21, Try.ntmps21
  have T0 := Three.new w n m b0 b1 a b
  have T0' := Lib.hid T0
  obtain ⟨⟨m1, m2, m3, m4⟩, ⟨x1, x2, x3, x4, x5⟩, ⟨y1, y2, y3, y4, y5⟩, _, _⟩ := T0
  have fm1 := Later.cell m1
  have fm2 := Later.cell m2
  have f1 := Later.cell x1
  have f2 := Later.cell x2
  have f3 := Later.cell x3
  have f4 := Later.cell x4
  have f5 := Later.cell x5
  have g1 := Later.cell y1
  have g2 := Later.cell y2
  have g3 := Later.cell y3
  have g4 := Later.cell y4
  have g5 := Later.cell y5
  clear m1 m2 m3 m4 x1 x2 x3 x4 x5 y1 y2 y3 y4 y5
  go_wp2_with fail
  refine Later.region (by kernel_rfl) (by kernel_rfl) ?_
  repeat (go_big_quiet_step (first | (go_at_call 18; with_reducible exact Later.call (HA.out _)) | (go_at_call 18; with_reducible exact Later.call (HB.out _))))
  refine wpQuiet_nil ?_
  rintro w2 ⟨⟨_, hb2⟩, rfl⟩
  have T2 := T0'.out.keep hb2
  have T2' := Lib.hid T2
  have hbw := T2.2.2.2.1
  have N0 := Lib.hid (IMap.below M0.out hbw)
  have N1 := Lib.hid (IMap.below M1.out hbw)
  clear hbw hb2 fm1 fm2 f1 f2 f3 f4 f5 g1 g2 g3 g4 g5
  obtain ⟨⟨m1, m2, m3, m4⟩, ⟨x1, x2, x3, x4, x5⟩, ⟨y1, y2, y3, y4, y5⟩, _, _⟩ := T2
  go_wp2_with (first
    | (at_lookup; refine wpList_lookup_own_ok_int _ rfl (.tmp 31) (.tmp 32) 60 rfl 3 3 .i64 law3 Try.underlying60 Try.underlying3 (zero3 _) b0 k0 D0 rfl N0.out _ _ rfl (keyOf_int_mk Try.underlying3 (wf_nat (by omega))) ?_; intro c hat hwc)
    | (at_lookup; refine wpList_lookup_own_ok_int _ rfl (.tmp 39) (.tmp 40) 60 rfl 3 3 .i64 law3 Try.underlying60 Try.underlying3 (zero3 _) b1 k1 D1 rfl N1.out _ _ rfl (keyOf_int_mk Try.underlying3 (wf_nat (by omega))) ?_; intro c' hat' hwc'))
  all_goals go_ret
  all_goals refine ⟨ret_b ?_, T2'.out.2.2.2.1⟩
  · have e0 : c = c0 := by simpa using hat.symm.trans C0.out
    have e1 : c' = c1 := by simpa using hat'.symm.trans C1.out
    have q0 : Maps.has D0 (.int .i64 (x : Int)) = true := by assumption
    have q1 : Maps.has D1 (.int .i64 (y : Int)) = true := by assumption
    rw [q0, q1, e0, e1]; rfl
  · have q0 : Maps.has D0 (.int .i64 (x : Int)) = true := by assumption
    have q1 : ¬ Maps.has D1 (.int .i64 (y : Int)) = true := by assumption
    simp only [Bool.not_eq_true] at q1
    rw [q0, q1]; rfl
  · have q0 : ¬ Maps.has D0 (.int .i64 (x : Int)) = true := by assumption
    simp only [Bool.not_eq_true] at q0
    rw [q0]; rfl


set_option maxRecDepth 100000 in
set_option maxHeartbeats 4000000 in
theorem psame_half (n m b0 b1 k0 k1 : Nat) (D0 D1 : DataW Unit) (a b : V) (w : World) (hm0 : IMap w b0 k0 D0) (hm1 : IMap w b1 k1 D1) (_hn : n ≤ 1000000) (hm : m ≤ 1000000)
    (h0 : among n a = 0) (h1 : 0 < among m b) (hd : Maps.has D0 (.int .i64 0) = false) :
    Calls Try.prog 21 #[mAgg n m b0 b1, vAgg a, vAgg b] w fun e w' => e = .returned (.bool false) ∧ Below w.heap.size w w' := by
  have hA := among_any n a
  have hB := among_any m b
  have lB := among_le m b
  rw [h0] at hA
  generalize among m b = y at *
  have HA := Lib.hid hA
  have HB := Lib.hid hB
  have M0 := Lib.hid hm0
  have M1 := Lib.hid hm1
  clear hA hB hm0 hm1 h0
  go_enter Try.func21, Try.ntmps21
  have T0 := Three.new w n m b0 b1 a b
  have T0' := Lib.hid T0
  obtain ⟨⟨m1, m2, m3, m4⟩, ⟨x1, x2, x3, x4, x5⟩, ⟨y1, y2, y3, y4, y5⟩, _, _⟩ := T0
  have fm1 := Later.cell m1
  have fm2 := Later.cell m2
  have f1 := Later.cell x1
  have f2 := Later.cell x2
  have f3 := Later.cell x3
  have f4 := Later.cell x4
  have f5 := Later.cell x5
  have g1 := Later.cell y1
  have g2 := Later.cell y2
  have g3 := Later.cell y3
  have g4 := Later.cell y4
  have g5 := Later.cell y5
  clear m1 m2 m3 m4 x1 x2 x3 x4 x5 y1 y2 y3 y4 y5
  go_wp2_with fail
  refine Later.region (by kernel_rfl) (by kernel_rfl) ?_
  repeat (go_big_quiet_step (first | (go_at_call 18; with_reducible exact Later.call (HA.out _)) | (go_at_call 18; with_reducible exact Later.call (HB.out _))))
  refine wpQuiet_nil ?_
  rintro w2 ⟨⟨_, hb2⟩, rfl⟩
  have T2 := T0'.out.keep hb2
  have T2' := Lib.hid T2
  have hbw := T2.2.2.2.1
  have N0 := Lib.hid (IMap.below M0.out hbw)
  have N1 := Lib.hid (IMap.below M1.out hbw)
  clear hbw hb2 fm1 fm2 f1 f2 f3 f4 f5 g1 g2 g3 g4 g5
  obtain ⟨⟨m1, m2, m3, m4⟩, ⟨x1, x2, x3, x4, x5⟩, ⟨y1, y2, y3, y4, y5⟩, _, _⟩ := T2
  go_wp2_with (first
    | (at_lookup; refine wpList_lookup_own_ok_int _ rfl (.tmp 31) (.tmp 32) 60 rfl 3 3 .i64 law3 Try.underlying60 Try.underlying3 (zero3 _) b0 k0 D0 rfl N0.out _ _ rfl (keyOf_int_mk Try.underlying3 (by decide)) ?_; intro c hat hwc)
    | (at_lookup; refine wpList_lookup_own_ok_int _ rfl (.tmp 39) (.tmp 40) 60 rfl 3 3 .i64 law3 Try.underlying60 Try.underlying3 (zero3 _) b1 k1 D1 rfl N1.out _ _ rfl (keyOf_int_mk Try.underlying3 (wf_nat (by omega))) ?_; intro c' hat' hwc'))
  all_goals go_ret
  all_goals exact ⟨rfl, T2'.out.2.2.2.1⟩

theorem call30 (x : Nat) (w : World) : Sem.run Try.prog (callFunc 30 #[.float .f64 x]) w = .ok (.value (.int .u64 (x : Int))) w := by kernel_rfl

/-- the four ways of the last comparison -/
def Num4 (x y : Nat) (r : Bool) : Prop :=
  ((x : Int) == (y : Int)) = true ∧ r = true ∨
  ((x : Int) == (y : Int)) = false ∧ (FloatKind.f64.format.order x x != some Ordering.eq) = true ∧ (FloatKind.f64.format.order y y != some Ordering.eq) = true ∧ r = true ∨
  ((x : Int) == (y : Int)) = false ∧ (FloatKind.f64.format.order x x != some Ordering.eq) = true ∧ (FloatKind.f64.format.order y y != some Ordering.eq) = false ∧ r = false ∨
  ((x : Int) == (y : Int)) = false ∧ (FloatKind.f64.format.order x x != some Ordering.eq) = false ∧ r = false

theorem num4 (x y : Nat) : Num4 x y (Fl.same x y) := by
  unfold Num4 Fl.same
  cases h : (x == y)
  · have h' : ((x : Int) == (y : Int)) = false := by
      have : x ≠ y := by simpa using h
      exact beq_eq_false_iff_ne.2 (by omega)
    right
    cases hx : Fl.fnan x
    · exact .inr (.inr ⟨h', by rw [order_self_num hx]; rfl, by simp⟩)
    · cases hy : Fl.fnan y
      · exact .inr (.inl ⟨h', by rw [order_self_nan hx]; rfl, by rw [order_self_num hy]; rfl, by simp⟩)
      · exact .inl ⟨h', by rw [order_self_nan hx]; rfl, by rw [order_self_nan hy]; rfl, by simp⟩
  · left
    have : x = y := by simpa using h
    exact ⟨beq_iff_eq.2 (by omega), by simp⟩

set_option maxRecDepth 100000 in
set_option maxHeartbeats 8000000 in
theorem psame_plain (n m b0 b1 : Nat) (a b : V) (w : World) (h0 : among n a = 0) (h1 : among m b = 0) :
    Calls Try.prog 21 #[mAgg n m b0 b1, vAgg a, vAgg b] w fun e w' => e = .returned (.bool (plainSame a b)) ∧ Below w.heap.size w w' := by
  have hA := among_any n a
  have hB := among_any m b
  rw [h0] at hA
  rw [h1] at hB
  have HA := Lib.hid hA
  have HB := Lib.hid hB
  have h4 := num4 a.num b.num
  have hp : plainSame a b = (a.kind == b.kind && a.bool == b.bool && a.str.toList == b.str.toList && a.id == b.id && Fl.same a.num b.num) := rfl
  generalize plainSame a b = R at *
  generalize Fl.same a.num b.num = q at *
  have HP := Lib.hid hp
  clear hA hB h0 h1 hp
  go_enter Try.func21, Try.ntmps21
  have T0 := Three.new w n m b0 b1 a b
  have T0' := Lib.hid T0
  obtain ⟨⟨m1, m2, m3, m4⟩, ⟨x1, x2, x3, x4, x5⟩, ⟨y1, y2, y3, y4, y5⟩, _, _⟩ := T0
  have fm1 := Later.cell m1
  have fm2 := Later.cell m2
  have f1 := Later.cell x1
  have f2 := Later.cell x2
  have f3 := Later.cell x3
  have f4 := Later.cell x4
  have f5 := Later.cell x5
  have g1 := Later.cell y1
  have g2 := Later.cell y2
  have g3 := Later.cell y3
  have g4 := Later.cell y4
  have g5 := Later.cell y5
  clear m1 m2 m3 m4 x1 x2 x3 x4 x5 y1 y2 y3 y4 y5
  go_wp2_with fail
  refine Later.region (by kernel_rfl) (by kernel_rfl) ?_
  repeat (go_big_quiet_step (first | (go_at_call 18; with_reducible exact Later.call (HA.out _)) | (go_at_call 18; with_reducible exact Later.call (HB.out _))))
  refine wpQuiet_nil ?_
  rintro w2 ⟨⟨_, hb2⟩, rfl⟩
  have T2 := T0'.out.keep hb2
  have T2' := Lib.hid T2
  clear hb2 fm1 fm2 f1 f2 f3 f4 f5 g1 g2 g3 g4 g5
  obtain ⟨_, ⟨x1, x2, x3, x4, x5⟩, ⟨y1, y2, y3, y4, y5⟩, _, _⟩ := T2
  go_wp2_with fail
  have f1 := Later.cell x1
  have f2 := Later.cell x2
  have f3 := Later.cell x3
  have f4 := Later.cell x4
  have f5 := Later.cell x5
  have g1 := Later.cell y1
  have g2 := Later.cell y2
  have g3 := Later.cell y3
  have g4 := Later.cell y4
  have g5 := Later.cell y5
  have X := Lib.hid (And.intro x1 (And.intro x2 (And.intro x3 (And.intro x4 x5))))
  have Y := Lib.hid (And.intro y1 (And.intro y2 (And.intro y3 (And.intro y4 y5))))
  clear x1 x2 x3 x4 x5 y1 y2 y3 y4 y5
  have k30 := call30
  rcases h4 with ⟨d1, rfl⟩ | ⟨d1, d2, d3, rfl⟩ | ⟨d1, d2, d3, rfl⟩ | ⟨d1, d2, rfl⟩
  all_goals
    refine Later.region (by kernel_rfl) (by kernel_rfl) ?_
    repeat (go_big_quiet_step (fail))
    refine wpQuiet_nil ?_
    rintro w3 ⟨⟨_, hb3⟩, rfl⟩
    have T3 := Lib.hid (T2'.out.keep hb3)
    clear hb3 f1 f2 f3 f4 f5 g1 g2 g3 g4 g5
    obtain ⟨x1, x2, x3, x4, x5⟩ := T3.out.2.1
    obtain ⟨y1, y2, y3, y4, y5⟩ := T3.out.2.2.1
    go_wp2
    all_goals go_ret
    all_goals refine ⟨ret_b ?_, T3.out.2.2.2.1⟩
    all_goals rw [HP.out]
    all_goals clear HP x1 x2 x3 x4 x5 y1 y2 y3 y4 y5
    all_goals simp [*]

end Go.Proofs.Ytkkcacpcicnihaa
