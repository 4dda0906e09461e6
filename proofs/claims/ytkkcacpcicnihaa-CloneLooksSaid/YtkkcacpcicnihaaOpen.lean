import Derived.Test.YtkkcacpcicnihaaLaw
import Derived.Deep.Slices
import Derived.Deep.Fields
import Derived.ChangeSame
import Derived.ProofKit
namespace Go.Proofs.Ytkkcacpcicnihaa
open Go.ChangeShapes Go.WideShapes Go.RowKit
open Go.Proofs.Cl

section
variable {H : Type} {enc : TypeId × Value → H} {w : World} {base : Nat} {sp : Nat → Bool} {hd : Bool}

theorem k3 : Try.prog.cellsOf 3 = 1 := by kernel_rfl
theorem k4 : Try.prog.cellsOf 4 = 1 := by kernel_rfl
theorem k9 : Try.prog.cellsOf 9 = 1 := by kernel_rfl
theorem k23 : Try.prog.cellsOf 23 = 1 := by kernel_rfl
theorem k25 : Try.prog.cellsOf 25 = 5 := by kernel_rfl
theorem k49 : Try.prog.cellsOf 49 = 1 := by kernel_rfl
theorem k51 : Try.prog.cellsOf 51 = 8 := by kernel_rfl
theorem k54 : Try.prog.cellsOf 54 = 2 := by kernel_rfl
theorem k55 : Try.prog.cellsOf 55 = 1 := by kernel_rfl
theorem k57 : Try.prog.cellsOf 57 = 18 := by kernel_rfl
theorem k59 : Try.prog.cellsOf 59 = 20 := by kernel_rfl

theorem trod_float {P : Program} {t : TypeId} {k : FloatKind} {fuel : Nat} {cs : List Value} {x : DataW H × List MemPlace} (ht : P.underlying t = some (.float k)) (h : DataW.trod enc P w base sp hd fuel t cs = some x) :
    ∃ n, cs = [.float k n] ∧ x = (.lit (.float k n), []) ∧ (Lit.float k n).wf = true := by
  cases fuel with
  | zero => simp [DataW.trod] at h
  | succ n =>
    unfold DataW.trod at h
    rw [ht] at h
    split at h <;> simp_all

/-- a field of a struct -/
theorem some_of_len {α : Type} {xs : List α} {i n : Nat} (h : xs.length = n) (hi : i < n) : ∃ y, xs[i]? = some y := ⟨_, List.getElem?_eq_getElem (by omega)⟩

set_option maxRecDepth 100000 in
theorem open_v {fuel : Nat} {cs : List Value} {x : DataW H × List MemPlace} (h : DataW.trod enc Try.prog w base sp hd fuel 25 cs = some x) : ∃ v : V, cs = (vCells v).toList ∧ v.num < 2 ^ 64 := by
  obtain ⟨xs, n, _, _, hl, hx, hf⟩ := DataW.trod_struct Try.underlying25 h
  rw [k25] at hl
  match cs, hl with
  | [c0, c1, c2, c3, c4], _ =>
    have hx' : xs.length = 5 := hx
    obtain ⟨y0, e0⟩ := some_of_len hx' (show 0 < 5 by omega)
    obtain ⟨y1, e1⟩ := some_of_len hx' (show 1 < 5 by omega)
    obtain ⟨y2, e2⟩ := some_of_len hx' (show 2 < 5 by omega)
    obtain ⟨y3, e3⟩ := some_of_len hx' (show 3 < 5 by omega)
    obtain ⟨y4, e4⟩ := some_of_len hx' (show 4 < 5 by omega)
    have h0 : DataW.trod enc Try.prog w base sp hd n 3 (([c0, c1, c2, c3, c4].drop 0).take (Try.prog.cellsOf 3)) = some y0 := (hf 0 _ rfl).trans e0
    have h1 : DataW.trod enc Try.prog w base sp hd n 4 (([c0, c1, c2, c3, c4].drop 1).take (Try.prog.cellsOf 4)) = some y1 := (hf 1 _ rfl).trans e1
    have h2 : DataW.trod enc Try.prog w base sp hd n 23 (([c0, c1, c2, c3, c4].drop 2).take (Try.prog.cellsOf 23)) = some y2 := (hf 2 _ rfl).trans e2
    have h3 : DataW.trod enc Try.prog w base sp hd n 9 (([c0, c1, c2, c3, c4].drop 3).take (Try.prog.cellsOf 9)) = some y3 := (hf 3 _ rfl).trans e3
    have h4 : DataW.trod enc Try.prog w base sp hd n 3 (([c0, c1, c2, c3, c4].drop 4).take (Try.prog.cellsOf 3)) = some y4 := (hf 4 _ rfl).trans e4
    rw [k3] at h0 h4
    rw [k4] at h1
    rw [k23] at h2
    rw [k9] at h3
    obtain ⟨a0, q0, _, _⟩ := DataW.trod_int Try.underlying3 h0
    obtain ⟨a1, q1, _⟩ := DataW.trod_bool Try.underlying4 h1
    obtain ⟨a2, q2, _, w2⟩ := trod_float Try.underlying23 h2
    obtain ⟨a3, q3, _, _⟩ := DataW.trod_string Try.underlying9 h3
    obtain ⟨a4, q4, _, _⟩ := DataW.trod_int Try.underlying3 h4
    simp only [List.drop_succ_cons, List.drop_zero, List.take_succ_cons, List.take_zero, List.cons.injEq, and_true] at q0 q1 q2 q3 q4
    subst q0 q1 q2 q3 q4
    refine ⟨⟨a0, a1, a2, a3, a4⟩, rfl, ?_⟩
    have := w2
    simp [Lit.wf] at this
    exact this

set_option maxRecDepth 100000 in
theorem open_key {fuel : Nat} {cs : List Value} {x : DataW H × List MemPlace} (h : DataW.trod enc Try.prog w base sp hd fuel 54 cs = some x) : ∃ (k : ByteArray) (y : Int), cs = [.string k, .int .i64 y] := by
  obtain ⟨xs, n, _, _, hl, hx, hf⟩ := DataW.trod_struct Try.underlying54 h
  rw [k54] at hl
  match cs, hl with
  | [c0, c1], _ =>
    have hx' : xs.length = 2 := hx
    obtain ⟨y0, e0⟩ := some_of_len hx' (show 0 < 2 by omega)
    have h0 : DataW.trod enc Try.prog w base sp hd n 9 (([c0, c1].drop 0).take (Try.prog.cellsOf 9)) = some y0 := (hf 0 _ rfl).trans e0
    rw [k9] at h0
    obtain ⟨a0, q0, _, _⟩ := DataW.trod_string Try.underlying9 h0
    obtain ⟨y1, e1⟩ := some_of_len hx' (show 1 < 2 by omega)
    have h1 : DataW.trod enc Try.prog w base sp hd n 3 (([c0, c1].drop 1).take (Try.prog.cellsOf 3)) = some y1 := (hf 1 _ rfl).trans e1
    rw [k3] at h1
    obtain ⟨a1, q1, _, _⟩ := DataW.trod_int Try.underlying3 h1
    simp only [List.drop_succ_cons, List.drop_zero, List.take_succ_cons, List.take_zero, List.cons.injEq, and_true] at q0 q1
    subst q0 q1
    exact ⟨a0, a1, rfl⟩

set_option maxRecDepth 100000 in
theorem open_d {fuel : Nat} {cs : List Value} {x : DataW H × List MemPlace} (h : DataW.trod enc Try.prog w base sp hd fuel 57 cs = some x) : ∃ d : Ds, cs = dCells d ∧ d.val.num < 2 ^ 64 ∧ d.get.num < 2 ^ 64 ∧ d.set.num < 2 ^ 64 := by
  obtain ⟨xs, n, _, _, hl, hx, hf⟩ := DataW.trod_struct Try.underlying57 h
  rw [k57] at hl
  match cs, hl with
  | [c0, c1, c2, c3, c4, c5, c6, c7, c8, c9, c10, c11, c12, c13, c14, c15, c16, c17], _ =>
    have hx' : xs.length = 6 := hx
    obtain ⟨y0, e0⟩ := some_of_len hx' (show 0 < 6 by omega)
    have h0 : DataW.trod enc Try.prog w base sp hd n 25 (([c0, c1, c2, c3, c4, c5, c6, c7, c8, c9, c10, c11, c12, c13, c14, c15, c16, c17].drop 0).take (Try.prog.cellsOf 25)) = some y0 := (hf 0 _ rfl).trans e0
    rw [k25] at h0
    obtain ⟨v0, q0, w0⟩ := open_v h0
    obtain ⟨y1, e1⟩ := some_of_len hx' (show 1 < 6 by omega)
    have h1 : DataW.trod enc Try.prog w base sp hd n 25 (([c0, c1, c2, c3, c4, c5, c6, c7, c8, c9, c10, c11, c12, c13, c14, c15, c16, c17].drop 5).take (Try.prog.cellsOf 25)) = some y1 := (hf 1 _ rfl).trans e1
    rw [k25] at h1
    obtain ⟨v1, q1, w1⟩ := open_v h1
    obtain ⟨y2, e2⟩ := some_of_len hx' (show 2 < 6 by omega)
    have h2 : DataW.trod enc Try.prog w base sp hd n 25 (([c0, c1, c2, c3, c4, c5, c6, c7, c8, c9, c10, c11, c12, c13, c14, c15, c16, c17].drop 10).take (Try.prog.cellsOf 25)) = some y2 := (hf 2 _ rfl).trans e2
    rw [k25] at h2
    obtain ⟨v2, q2, w2⟩ := open_v h2
    obtain ⟨y3, e3⟩ := some_of_len hx' (show 3 < 6 by omega)
    have h3 : DataW.trod enc Try.prog w base sp hd n 55 (([c0, c1, c2, c3, c4, c5, c6, c7, c8, c9, c10, c11, c12, c13, c14, c15, c16, c17].drop 15).take (Try.prog.cellsOf 55)) = some y3 := (hf 3 _ rfl).trans e3
    rw [k55] at h3
    obtain ⟨a3, q3, _, _⟩ := DataW.trod_int Try.underlying55 h3
    obtain ⟨y4, e4⟩ := some_of_len hx' (show 4 < 6 by omega)
    have h4 : DataW.trod enc Try.prog w base sp hd n 55 (([c0, c1, c2, c3, c4, c5, c6, c7, c8, c9, c10, c11, c12, c13, c14, c15, c16, c17].drop 16).take (Try.prog.cellsOf 55)) = some y4 := (hf 4 _ rfl).trans e4
    rw [k55] at h4
    obtain ⟨a4, q4, _, _⟩ := DataW.trod_int Try.underlying55 h4
    obtain ⟨y5, e5⟩ := some_of_len hx' (show 5 < 6 by omega)
    have h5 : DataW.trod enc Try.prog w base sp hd n 55 (([c0, c1, c2, c3, c4, c5, c6, c7, c8, c9, c10, c11, c12, c13, c14, c15, c16, c17].drop 17).take (Try.prog.cellsOf 55)) = some y5 := (hf 5 _ rfl).trans e5
    rw [k55] at h5
    obtain ⟨a5, q5, _, _⟩ := DataW.trod_int Try.underlying55 h5
    simp only [List.drop_succ_cons, List.drop_zero, List.take_succ_cons, List.take_zero, List.cons.injEq, and_true] at q0 q1 q2 q3 q4 q5
    obtain ⟨r0, r1, r2, r3, r4⟩ := q0
    obtain ⟨s0, s1, s2, s3, s4⟩ := q1
    obtain ⟨t0, t1, t2, t3, t4⟩ := q2
    subst r0 r1 r2 r3 r4 s0 s1 s2 s3 s4 t0 t1 t2 t3 t4 q3 q4 q5
    exact ⟨⟨v0, v1, v2, a3, a4, a5⟩, rfl, w0, w1, w2⟩

set_option maxRecDepth 100000 in
theorem open_p {fuel : Nat} {cs : List Value} {x : DataW H × List MemPlace} (h : DataW.trod enc Try.prog w base sp hd fuel 59 cs = some x) : ∃ p : Pr, cs = pCells p ∧ p.d.val.num < 2 ^ 64 ∧ p.d.get.num < 2 ^ 64 ∧ p.d.set.num < 2 ^ 64 := by
  obtain ⟨xs, n, _, _, hl, hx, hf⟩ := DataW.trod_struct Try.underlying59 h
  rw [k59] at hl
  match cs, hl with
  | [c0, c1, c2, c3, c4, c5, c6, c7, c8, c9, c10, c11, c12, c13, c14, c15, c16, c17, c18, c19], _ =>
    have hx' : xs.length = 2 := hx
    obtain ⟨y0, e0⟩ := some_of_len hx' (show 0 < 2 by omega)
    have h0 : DataW.trod enc Try.prog w base sp hd n 54 (([c0, c1, c2, c3, c4, c5, c6, c7, c8, c9, c10, c11, c12, c13, c14, c15, c16, c17, c18, c19].drop 0).take (Try.prog.cellsOf 54)) = some y0 := (hf 0 _ rfl).trans e0
    rw [k54] at h0
    obtain ⟨a0, b0, q0⟩ := open_key h0
    obtain ⟨y1, e1⟩ := some_of_len hx' (show 1 < 2 by omega)
    have h1 : DataW.trod enc Try.prog w base sp hd n 57 (([c0, c1, c2, c3, c4, c5, c6, c7, c8, c9, c10, c11, c12, c13, c14, c15, c16, c17, c18, c19].drop 2).take (Try.prog.cellsOf 57)) = some y1 := (hf 1 _ rfl).trans e1
    rw [k57] at h1
    obtain ⟨d1, q1, w1⟩ := open_d h1
    simp only [List.drop_succ_cons, List.drop_zero, List.take_succ_cons, List.take_zero, List.cons.injEq, and_true] at q0 q1
    obtain ⟨r0, r1⟩ := q0
    obtain ⟨s0, s1, s2, s3, s4, s5, s6, s7, s8, s9, s10, s11, s12, s13, s14, s15, s16, s17⟩ := q1
    subst r0 r1 s0 s1 s2 s3 s4 s5 s6 s7 s8 s9 s10 s11 s12 s13 s14 s15 s16 s17
    exact ⟨⟨a0, b0, d1⟩, rfl, w1⟩

end

end Go.Proofs.Ytkkcacpcicnihaa
