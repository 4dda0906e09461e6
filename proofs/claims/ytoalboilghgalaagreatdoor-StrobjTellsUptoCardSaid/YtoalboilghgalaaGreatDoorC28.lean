/- Lemmas for this claim, in parts: Gtab3. -/
import Derived.Test.YtoalboilghgalaaGreatDoorC14
set_option maxRecDepth 100000
set_option maxHeartbeats 4000000
set_option linter.unusedVariables false
set_option linter.unusedSimpArgs false
/- Taking the gaps out of a row, in place: plain Lean. -/
namespace Go.Proofs.YtoalboilghgalaaGreatDoor
open Go.RowKit
open Go.Proofs.Dc (V Ds Ky)

theorem live_take {E : List GE} {j : Nat} (hj : j < E.length) : live (E.take (j + 1)) = if E[j].gone = true then live (E.take j) else live (E.take j) ++ [E[j]] := by
  rw [List.take_succ_eq_append_getElem hj, live_append]
  simp only [live]
  split <;> simp
theorem live_len_le (E : List GE) : (live E).length ≤ E.length := (live_sub E).length_le
theorem live_all : ∀ {E : List GE}, (∀ e ∈ E, e.gone = false) → live E = E
  | [], _ => rfl
  | a :: r, h => by rw [live, if_neg (by rw [h a (by simp)]; simp), live_all fun e he => h e (by simp [he])]
/-- there is a first gap -/
theorem first_gap : ∀ {E : List GE}, (live E).length < E.length → ∃ c, ∃ hc : c < E.length, E[c].gone = true ∧ ∀ j (hj : j < c), (E[j]'(Nat.lt_trans hj hc)).gone = false
  | [], h => absurd h (Nat.not_lt_zero _)
  | a :: r, h => by
    cases hg : a.gone with
    | true => exact ⟨0, by simp, hg, fun j hj => absurd hj (Nat.not_lt_zero _)⟩
    | false =>
      rw [live, if_neg (by rw [hg]; simp), List.length_cons, List.length_cons] at h
      obtain ⟨c, hc, h1, h2⟩ := first_gap (E := r) (by omega)
      refine ⟨c + 1, by simpa using hc, by simpa using h1, fun j hj => ?_⟩
      cases j with
      | zero => exact hg
      | succ j => simpa using h2 j (by omega)
theorem live_before {E : List GE} {c : Nat} (hc : c < E.length) (h : ∀ j (hj : j < c), (E[j]'(Nat.lt_trans hj hc)).gone = false) : live (E.take c) = E.take c := by
  refine live_all fun e he => ?_
  obtain ⟨j, hj, rfl⟩ := List.mem_iff_getElem.1 he
  have hj' : j < c := by rw [List.length_take] at hj; omega
  rw [List.getElem_take]
  exact h j hj'

/-- a row of cells while the gaps are taken out: those that stand up to j, and all from j on as they were -/
structure Comp (E : List GE) (X : List Value) (j : Nat) : Prop where
  le : j ≤ E.length
  len : E.length * 22 ≤ X.length
  pre : X.take ((live (E.take j)).length * 22) = gAll (live (E.take j))
  rest : ∀ p, j * 22 ≤ p → p < E.length * 22 → X[p]? = (gAll E)[p]?
theorem Comp.start {E : List GE} {X : List Value} {c : Nat} (hl : E.length * 22 ≤ X.length) (hX : X.take (E.length * 22) = gAll E) (hc : c < E.length) (h : ∀ j (hj : j < c), (E[j]'(Nat.lt_trans hj hc)).gone = false) : Comp E X c where
  le := Nat.le_of_lt hc
  len := hl
  pre := by
    have e := live_before hc h
    have hlen : (E.take c).length = c := by rw [List.length_take]; omega
    rw [e, hlen]
    have h1 : X.take (c * 22) = (X.take (E.length * 22)).take (c * 22) := by rw [List.take_take, Nat.min_eq_left (by omega)]
    rw [h1, hX]
    have h2 : gAll E = gAll (E.take c) ++ gAll (E.drop c) := by rw [← gAll_append, List.take_append_drop]
    rw [h2]
    exact List.take_left' (by rw [gAll_length, hlen])
  rest := fun p _ hp => by rw [← hX, List.getElem?_take, if_pos hp]
theorem Comp.skip {E : List GE} {X : List Value} {j : Nat} (h : Comp E X j) (hj : j < E.length) (hg : E[j].gone = true) : Comp E X (j + 1) where
  le := hj
  len := h.len
  pre := by rw [live_take hj, if_pos hg]; exact h.pre
  rest := fun p h1 h2 => h.rest p (by omega) h2
theorem Comp.put {E : List GE} {X : List Value} {j : Nat} (h : Comp E X j) (hj : j < E.length) (hg : E[j].gone = false) : Comp E (X.take ((live (E.take j)).length * 22) ++ gCells E[j] ++ X.drop ((live (E.take j)).length * 22 + 22)) (j + 1) := by
  have hi : (live (E.take j)).length ≤ j := by have := live_len_le (E.take j); rw [List.length_take] at this; omega
  have hlen := h.len
  have h22 : (gCells E[j]).length = 22 := rfl
  have htl : (X.take ((live (E.take j)).length * 22)).length = (live (E.take j)).length * 22 := by rw [List.length_take]; omega
  refine ⟨hj, ?_, ?_, fun p h1 h2 => ?_⟩
  · rw [List.length_append, List.length_append, htl, h22, List.length_drop]; omega
  · rw [live_take hj, if_neg (by rw [hg]; simp), List.length_append, List.length_singleton, gAll_snoc, ← h.pre]
    exact List.take_left' (by rw [List.length_append, htl, h22]; omega)
  · rw [← h.rest p (by omega) h2, List.getElem?_append_right (by rw [List.length_append, htl, h22]; omega), List.length_append, htl, h22, List.getElem?_drop]
    congr 1; omega
theorem Comp.done {E : List GE} {X : List Value} (h : Comp E X E.length) : X.take ((live E).length * 22) = gAll (live E) := by
  have := h.pre
  rwa [List.take_length] at this

end Go.Proofs.YtoalboilghgalaaGreatDoor
