/- Lemmas for this claim, in parts: Args. -/
import Derived.Test.YtoalboilghgalaaGreatDoorC46
import Derived.Deep.Slices
import Derived.Deep.Fields
import Derived.ChangeSame
import Derived.ProofKit
set_option maxRecDepth 100000
set_option maxHeartbeats 4000000
set_option linter.unusedVariables false
set_option linter.unusedSimpArgs false
/- The arguments opened: a list of properties. -/
namespace Go.Proofs.YtoalboilghgalaaGreatDoor
open Go.ChangeShapes Go.WideShapes Go.RowKit Go.Deep
open Go.Proofs.Dc (V Ds Ky)

section
variable {H : Type} {enc : TypeId × Value → H} {w : World} {base : Nat} {sp : Nat → Bool} {hd : Bool}

theorem k3 : Tryz.prog.cellsOf 3 = 1 := by kernel_rfl
theorem k4 : Tryz.prog.cellsOf 4 = 1 := by kernel_rfl
theorem k9 : Tryz.prog.cellsOf 9 = 1 := by kernel_rfl
theorem k34 : Tryz.prog.cellsOf 34 = 1 := by kernel_rfl
theorem k36 : Tryz.prog.cellsOf 36 = 5 := by kernel_rfl
theorem k22 : Tryz.prog.cellsOf 22 = 1 := by kernel_rfl
theorem k40 : Tryz.prog.cellsOf 40 = 2 := by kernel_rfl
theorem k41 : Tryz.prog.cellsOf 41 = 1 := by kernel_rfl
theorem k43 : Tryz.prog.cellsOf 43 = 18 := by kernel_rfl
theorem k45 : Tryz.prog.cellsOf 45 = 20 := by kernel_rfl

theorem trod_float {P : Program} {t : TypeId} {k : FloatKind} {fuel : Nat} {cs : List Value} {x : DataW H × List MemPlace} (ht : P.underlying t = some (.float k)) (h : DataW.trod enc P w base sp hd fuel t cs = some x) :
    ∃ n, cs = [.float k n] ∧ x = (.lit (.float k n), []) ∧ (Lit.float k n).wf = true := by
  cases fuel with
  | zero => simp [DataW.trod] at h
  | succ n =>
    unfold DataW.trod at h
    rw [ht] at h
    split at h <;> simp_all

/-- a field of a struct -/
theorem some_of_len {α : Type} {xs : List α} {i n : Nat} (h : xs.length = n) (hi : i < n) : ∃ y, xs[i]? = some y := ⟨_, List.getElem?_eq_getElem (by omega)⟩

set_option maxRecDepth 100000 in
theorem open_v {fuel : Nat} {cs : List Value} {x : DataW H × List MemPlace} (h : DataW.trod enc Tryz.prog w base sp hd fuel 36 cs = some x) : ∃ v : V, cs = [.int .i64 v.kind, .bool v.bool, .float .f64 v.num, .string v.str, .int .i64 v.id] ∧ v.num < 2 ^ 64 := by
  obtain ⟨xs, n, _, _, hl, hx, hf⟩ := DataW.trod_struct Tryz.underlying36 h
  rw [k36] at hl
  match cs, hl with
  | [c0, c1, c2, c3, c4], _ =>
    have hx' : xs.length = 5 := hx
    obtain ⟨y0, e0⟩ := some_of_len hx' (show 0 < 5 by omega)
    obtain ⟨y1, e1⟩ := some_of_len hx' (show 1 < 5 by omega)
    obtain ⟨y2, e2⟩ := some_of_len hx' (show 2 < 5 by omega)
    obtain ⟨y3, e3⟩ := some_of_len hx' (show 3 < 5 by omega)
    obtain ⟨y4, e4⟩ := some_of_len hx' (show 4 < 5 by omega)
    have h0 : DataW.trod enc Tryz.prog w base sp hd n 3 (([c0, c1, c2, c3, c4].drop 0).take (Tryz.prog.cellsOf 3)) = some y0 := (hf 0 _ rfl).trans e0
    have h1 : DataW.trod enc Tryz.prog w base sp hd n 4 (([c0, c1, c2, c3, c4].drop 1).take (Tryz.prog.cellsOf 4)) = some y1 := (hf 1 _ rfl).trans e1
    have h2 : DataW.trod enc Tryz.prog w base sp hd n 34 (([c0, c1, c2, c3, c4].drop 2).take (Tryz.prog.cellsOf 34)) = some y2 := (hf 2 _ rfl).trans e2
    have h3 : DataW.trod enc Tryz.prog w base sp hd n 9 (([c0, c1, c2, c3, c4].drop 3).take (Tryz.prog.cellsOf 9)) = some y3 := (hf 3 _ rfl).trans e3
    have h4 : DataW.trod enc Tryz.prog w base sp hd n 3 (([c0, c1, c2, c3, c4].drop 4).take (Tryz.prog.cellsOf 3)) = some y4 := (hf 4 _ rfl).trans e4
    rw [k3] at h0 h4
    rw [k4] at h1
    rw [k34] at h2
    rw [k9] at h3
    obtain ⟨a0, q0, _, _⟩ := DataW.trod_int Tryz.underlying3 h0
    obtain ⟨a1, q1, _⟩ := DataW.trod_bool Tryz.underlying4 h1
    obtain ⟨a2, q2, _, w2⟩ := trod_float Tryz.underlying34 h2
    obtain ⟨a3, q3, _, _⟩ := DataW.trod_string Tryz.underlying9 h3
    obtain ⟨a4, q4, _, _⟩ := DataW.trod_int Tryz.underlying3 h4
    simp only [List.drop_succ_cons, List.drop_zero, List.take_succ_cons, List.take_zero, List.cons.injEq, and_true] at q0 q1 q2 q3 q4
    subst q0 q1 q2 q3 q4
    refine ⟨⟨a0, a1, a2, a3, a4⟩, rfl, ?_⟩
    have := w2
    simp [Lit.wf] at this
    exact this

set_option maxRecDepth 100000 in
theorem open_key {fuel : Nat} {cs : List Value} {x : DataW H × List MemPlace} (h : DataW.trod enc Tryz.prog w base sp hd fuel 40 cs = some x) : ∃ (k : ByteArray) (y : Int), cs = [.string k, .int .i64 y] := by
  obtain ⟨xs, n, _, _, hl, hx, hf⟩ := DataW.trod_struct Tryz.underlying40 h
  rw [k40] at hl
  match cs, hl with
  | [c0, c1], _ =>
    have hx' : xs.length = 2 := hx
    obtain ⟨y0, e0⟩ := some_of_len hx' (show 0 < 2 by omega)
    have h0 : DataW.trod enc Tryz.prog w base sp hd n 9 (([c0, c1].drop 0).take (Tryz.prog.cellsOf 9)) = some y0 := (hf 0 _ rfl).trans e0
    rw [k9] at h0
    obtain ⟨a0, q0, _, _⟩ := DataW.trod_string Tryz.underlying9 h0
    obtain ⟨y1, e1⟩ := some_of_len hx' (show 1 < 2 by omega)
    have h1 : DataW.trod enc Tryz.prog w base sp hd n 3 (([c0, c1].drop 1).take (Tryz.prog.cellsOf 3)) = some y1 := (hf 1 _ rfl).trans e1
    rw [k3] at h1
    obtain ⟨a1, q1, _, _⟩ := DataW.trod_int Tryz.underlying3 h1
    simp only [List.drop_succ_cons, List.drop_zero, List.take_succ_cons, List.take_zero, List.cons.injEq, and_true] at q0 q1
    subst q0 q1
    exact ⟨a0, a1, rfl⟩

set_option maxRecDepth 100000 in
theorem open_d {fuel : Nat} {cs : List Value} {x : DataW H × List MemPlace} (h : DataW.trod enc Tryz.prog w base sp hd fuel 43 cs = some x) : ∃ d : Ds, cs = (dArr d).toList ∧ Nums d := by
  obtain ⟨xs, n, _, _, hl, hx, hf⟩ := DataW.trod_struct Tryz.underlying43 h
  rw [k43] at hl
  match cs, hl with
  | [c0, c1, c2, c3, c4, c5, c6, c7, c8, c9, c10, c11, c12, c13, c14, c15, c16, c17], _ =>
    have hx' : xs.length = 6 := hx
    obtain ⟨y0, e0⟩ := some_of_len hx' (show 0 < 6 by omega)
    have h0 : DataW.trod enc Tryz.prog w base sp hd n 36 (([c0, c1, c2, c3, c4, c5, c6, c7, c8, c9, c10, c11, c12, c13, c14, c15, c16, c17].drop 0).take (Tryz.prog.cellsOf 36)) = some y0 := (hf 0 _ rfl).trans e0
    rw [k36] at h0
    obtain ⟨v0, q0, w0⟩ := open_v h0
    obtain ⟨y1, e1⟩ := some_of_len hx' (show 1 < 6 by omega)
    have h1 : DataW.trod enc Tryz.prog w base sp hd n 36 (([c0, c1, c2, c3, c4, c5, c6, c7, c8, c9, c10, c11, c12, c13, c14, c15, c16, c17].drop 5).take (Tryz.prog.cellsOf 36)) = some y1 := (hf 1 _ rfl).trans e1
    rw [k36] at h1
    obtain ⟨v1, q1, w1⟩ := open_v h1
    obtain ⟨y2, e2⟩ := some_of_len hx' (show 2 < 6 by omega)
    have h2 : DataW.trod enc Tryz.prog w base sp hd n 36 (([c0, c1, c2, c3, c4, c5, c6, c7, c8, c9, c10, c11, c12, c13, c14, c15, c16, c17].drop 10).take (Tryz.prog.cellsOf 36)) = some y2 := (hf 2 _ rfl).trans e2
    rw [k36] at h2
    obtain ⟨v2, q2, w2⟩ := open_v h2
    obtain ⟨y3, e3⟩ := some_of_len hx' (show 3 < 6 by omega)
    have h3 : DataW.trod enc Tryz.prog w base sp hd n 41 (([c0, c1, c2, c3, c4, c5, c6, c7, c8, c9, c10, c11, c12, c13, c14, c15, c16, c17].drop 15).take (Tryz.prog.cellsOf 41)) = some y3 := (hf 3 _ rfl).trans e3
    rw [k41] at h3
    obtain ⟨a3, q3, _, _⟩ := DataW.trod_int Tryz.underlying41 h3
    obtain ⟨y4, e4⟩ := some_of_len hx' (show 4 < 6 by omega)
    have h4 : DataW.trod enc Tryz.prog w base sp hd n 41 (([c0, c1, c2, c3, c4, c5, c6, c7, c8, c9, c10, c11, c12, c13, c14, c15, c16, c17].drop 16).take (Tryz.prog.cellsOf 41)) = some y4 := (hf 4 _ rfl).trans e4
    rw [k41] at h4
    obtain ⟨a4, q4, _, _⟩ := DataW.trod_int Tryz.underlying41 h4
    obtain ⟨y5, e5⟩ := some_of_len hx' (show 5 < 6 by omega)
    have h5 : DataW.trod enc Tryz.prog w base sp hd n 41 (([c0, c1, c2, c3, c4, c5, c6, c7, c8, c9, c10, c11, c12, c13, c14, c15, c16, c17].drop 17).take (Tryz.prog.cellsOf 41)) = some y5 := (hf 5 _ rfl).trans e5
    rw [k41] at h5
    obtain ⟨a5, q5, _, _⟩ := DataW.trod_int Tryz.underlying41 h5
    simp only [List.drop_succ_cons, List.drop_zero, List.take_succ_cons, List.take_zero, List.cons.injEq, and_true] at q0 q1 q2 q3 q4 q5
    obtain ⟨r0, r1, r2, r3, r4⟩ := q0
    obtain ⟨s0, s1, s2, s3, s4⟩ := q1
    obtain ⟨t0, t1, t2, t3, t4⟩ := q2
    subst r0 r1 r2 r3 r4 s0 s1 s2 s3 s4 t0 t1 t2 t3 t4 q3 q4 q5
    exact ⟨⟨v0, v1, v2, a3, a4, a5⟩, rfl, ⟨w0, w1, w2⟩⟩

set_option maxRecDepth 100000 in
theorem open_p {fuel : Nat} {cs : List Value} {x : DataW H × List MemPlace} (h : DataW.trod enc Tryz.prog w base sp hd fuel 45 cs = some x) : ∃ p : Ky × Ds, cs = pCells p ∧ Nums p.2 := by
  obtain ⟨xs, n, _, _, hl, hx, hf⟩ := DataW.trod_struct Tryz.underlying45 h
  rw [k45] at hl
  match cs, hl with
  | [c0, c1, c2, c3, c4, c5, c6, c7, c8, c9, c10, c11, c12, c13, c14, c15, c16, c17, c18, c19], _ =>
    have hx' : xs.length = 2 := hx
    obtain ⟨y0, e0⟩ := some_of_len hx' (show 0 < 2 by omega)
    have h0 : DataW.trod enc Tryz.prog w base sp hd n 40 (([c0, c1, c2, c3, c4, c5, c6, c7, c8, c9, c10, c11, c12, c13, c14, c15, c16, c17, c18, c19].drop 0).take (Tryz.prog.cellsOf 40)) = some y0 := (hf 0 _ rfl).trans e0
    rw [k40] at h0
    obtain ⟨a0, b0, q0⟩ := open_key h0
    obtain ⟨y1, e1⟩ := some_of_len hx' (show 1 < 2 by omega)
    have h1 : DataW.trod enc Tryz.prog w base sp hd n 43 (([c0, c1, c2, c3, c4, c5, c6, c7, c8, c9, c10, c11, c12, c13, c14, c15, c16, c17, c18, c19].drop 2).take (Tryz.prog.cellsOf 43)) = some y1 := (hf 1 _ rfl).trans e1
    rw [k43] at h1
    obtain ⟨d1, q1, w1⟩ := open_d h1
    simp only [List.drop_succ_cons, List.drop_zero, List.take_succ_cons, List.take_zero] at q0 q1
    refine ⟨(⟨a0, b0⟩, d1), ?_, w1⟩
    show [c0, c1, c2, c3, c4, c5, c6, c7, c8, c9, c10, c11, c12, c13, c14, c15, c16, c17, c18, c19] = [.string a0, .int .i64 b0] ++ (dArr d1).toList
    rw [← q1]
    simp only [List.cons.injEq, and_true] at q0
    rw [q0.1, q0.2]
    rfl

theorem list_of {α : Type} {p : Nat → α → Prop} : ∀ n : Nat, (∀ i, i < n → ∃ v, p i v) → ∃ l : List α, l.length = n ∧ ∀ i, (h : i < l.length) → p i l[i]
  | 0, _ => ⟨[], rfl, fun i h => absurd h (by simp)⟩
  | n + 1, h => by
    obtain ⟨l, hl, hp⟩ := list_of n fun i hi => h i (by omega)
    obtain ⟨v, hv⟩ := h n (by omega)
    refine ⟨l ++ [v], by simp [hl], fun i hi => ?_⟩
    by_cases hin : i < l.length
    · rw [List.getElem_append_left hin]
      exact hp i hin
    · have : i = n := by simp at hi; omega
      subst this
      rw [List.getElem_append_right (by omega)]
      simpa using hv
theorem spot_of_cells {a : Addr} {n : Nat} {cs : List Value} (h : w.cells? base (a.add (0 * n)) n = some cs) (hn : 0 < n) : a.spot = none := by
  obtain ⟨_, hl, hat⟩ := World.cells?_some h
  have h0 := hat 0 hn
  rw [List.getElem?_eq_getElem (by omega)] at h0
  have := World.cell?_spot h0
  simpa [Addr.add] using this
theorem range_of_cells {b off k n : Nat} {cs : List Value} (h : w.cells? base ((⟨b, off, none⟩ : Addr).add k) n = some cs) : w.rangeAt b (off + k) cs ∧ cs.length = n ∧ (0 < n → b < w.heap.size) := by
  obtain ⟨_, hl, hat⟩ := World.cells?_some h
  have hr : w.rangeAt b (off + k) cs := fun j v hv => by
    have hj : j < cs.length := (List.getElem?_eq_some_iff.1 hv).1
    have := hat j (by omega)
    rw [Addr.add_mid, Addr.add_mid] at this
    rw [this, hv]
  refine ⟨hr, hl, fun hn => ?_⟩
  have := hr 0 _ (List.getElem?_eq_getElem (show 0 < cs.length by omega))
  exact block_lt_of_cell this
/-- the list of properties that came in -/
theorem open_props {fuel : Nat} {cs : List Value} {x : DataW H × List MemPlace} (h : DataW.trod enc Tryz.prog w base sp hd fuel 22 cs = some x) :
    ∃ (A : Option Addr) (ps : List (Ky × Ds)) (cap : Nat), cs = [.slice A ps.length cap] ∧ ArgAt w.heap.size w A ps ∧ ∀ p ∈ ps, Nums p.2 := by
  rcases open_slice Tryz.underlying22 h with ⟨rfl, _⟩ | ⟨a, len, cap, m, n, D, Pl, rfl, _, _, _, hm, hx, hi⟩
  · exact ⟨none, [], 0, rfl, fun i hi => absurd hi (by simp), fun p hp => by cases hp⟩
  · have hle : len ≤ m := by rw [hm]; split <;> omega
    rw [k45] at hi
    obtain ⟨l, hl, hp⟩ := list_of (α := Ky × Ds) (p := fun i v => ∃ c, w.cells? base (a.add (i * 20)) 20 = some c ∧ c = pCells v ∧ Nums v.2) len fun i hlt => by
      obtain ⟨c, h1, h2⟩ := hi i (by omega)
      obtain ⟨v, hv, hn⟩ := open_p h2
      exact ⟨v, c, h1, hv, hn⟩
    refine ⟨some a, l, cap, by rw [hl], fun i hil => ?_, fun p hm => ?_⟩
    · obtain ⟨c0, h0, _⟩ := hp 0 (by omega)
      have hs := spot_of_cells h0 (by omega)
      obtain ⟨b, off, spot⟩ := a
      simp only at hs
      subst hs
      obtain ⟨c, hc, hv, _⟩ := hp i hil
      obtain ⟨hr, _, hb⟩ := range_of_cells hc
      rw [hv] at hr
      exact ⟨b, off, rfl, hb (by omega), hb (by omega), hr⟩
    · obtain ⟨i, hi, rfl⟩ := List.getElem_of_mem hm
      obtain ⟨_, _, _, h⟩ := hp i hi
      exact h
end

end Go.Proofs.YtoalboilghgalaaGreatDoor
