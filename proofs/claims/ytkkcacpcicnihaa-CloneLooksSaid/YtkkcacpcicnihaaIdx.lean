import Derived.Test.YtkkcacpcicnihaaPsame
namespace Go.Proofs.Ytkkcacpcicnihaa
open Go.RowKit Go.Maps
open Go.Proofs.Cl
open Go.Proofs

/-- a map from a list's objects to their places, behind k rounds -/
def idxMap (r : List Nat) : Nat → DataW Unit
  | 0 => .map []
  | k + 1 => (idxMap r k).put (.int .i64 ((r.getD k 0 : Nat) : Int)) (.lit (.int .i64 (k : Int)))

theorem idxMap_isMap (r : List Nat) (k : Nat) : IsMap (idxMap r k) := by
  induction k with
  | zero => exact isMap_empty
  | succ k ih => exact ih.put _ _

theorem key_ne {a b : Nat} (h : a ≠ b) : (Lit.int .i64 (a : Int)) ≠ .int .i64 (b : Int) := by
  intro e
  injection e with _ e
  omega

theorem isKey (n : Int) : WideAt.IsKeyLit (.int .i64 n) := trivial

theorem nodup_ne {r : List Nat} (hn : r.Nodup) {i k : Nat} (hik : i < k) (hk : k < r.length) : r.getD i 0 ≠ r.getD k 0 := by
  rw [List.getD_eq_getElem?_getD, List.getD_eq_getElem?_getD, List.getElem?_eq_getElem (show i < r.length by omega), List.getElem?_eq_getElem hk]
  simp only [Option.getD_some]
  exact List.pairwise_iff_getElem.1 hn i k (by omega) hk hik

theorem idxMap_at (r : List Nat) (hn : r.Nodup) (k : Nat) (hk : k ≤ r.length) (i : Nat) (hi : i < k) :
    Maps.has (idxMap r k) (.int .i64 ((r.getD i 0 : Nat) : Int)) = true ∧ (idxMap r k).atKey (.int .i64 ((r.getD i 0 : Nat) : Int)) (.lit (.int .i64 0)) = .lit (.int .i64 (i : Int)) := by
  induction k with
  | zero => omega
  | succ k ih =>
    unfold idxMap
    by_cases e : i = k
    · subst e
      exact ⟨has_put_same (idxMap_isMap r i) (isKey _) _, atKey_put_same (idxMap_isMap r i) (isKey _) _ _⟩
    · have hne : r.getD i 0 ≠ r.getD k 0 := nodup_ne hn (by omega) (by omega)
      rw [has_put_other (key_ne hne), atKey_put_other (key_ne hne)]
      exact ih (by omega) (by omega)

theorem idxMap_not (r : List Nat) (k : Nat) (hk : k ≤ r.length) (x : Nat) (hx : ∀ i, i < k → r.getD i 0 ≠ x) :
    Maps.has (idxMap r k) (.int .i64 (x : Int)) = false ∧ (idxMap r k).atKey (.int .i64 (x : Int)) (.lit (.int .i64 0)) = .lit (.int .i64 0) := by
  induction k with
  | zero => exact ⟨rfl, rfl⟩
  | succ k ih =>
    unfold idxMap
    rw [has_put_other (key_ne (Ne.symm (hx k (by omega)))), atKey_put_other (key_ne (Ne.symm (hx k (by omega))))]
    exact ih (by omega) fun i hi => hx i (by omega)

/-- what the program's comparison says of two values -/
def pSame (n : Nat) (r : List Nat) (m : Nat) (s : List Nat) (a b : V) : Bool :=
  if among n a = 0 ∧ among m b = 0 then plainSame a b else decide (among n a ∈ r) && decide (among m b ∈ s) && (r.idxOf (among n a) == s.idxOf (among m b))

theorem getD_idxOf {r : List Nat} {x : Nat} (h : x ∈ r) : r.getD (r.idxOf x) 0 = x := by
  have hl := List.idxOf_lt_length_of_mem h
  rw [List.getD_eq_getElem?_getD, List.getElem?_eq_getElem hl]
  simp

theorem idxMap_mem {r : List Nat} (hn : r.Nodup) {x : Nat} (h : x ∈ r) :
    Maps.has (idxMap r r.length) (.int .i64 (x : Int)) = true ∧ (idxMap r r.length).atKey (.int .i64 (x : Int)) (.lit (.int .i64 0)) = .lit (.int .i64 ((r.idxOf x : Nat) : Int)) := by
  have := idxMap_at r hn r.length (Nat.le_refl _) (r.idxOf x) (List.idxOf_lt_length_of_mem h)
  rwa [getD_idxOf h] at this

theorem idxMap_no {r : List Nat} {x : Nat} (h : x ∉ r) :
    Maps.has (idxMap r r.length) (.int .i64 (x : Int)) = false ∧ (idxMap r r.length).atKey (.int .i64 (x : Int)) (.lit (.int .i64 0)) = .lit (.int .i64 0) :=
  idxMap_not r r.length (Nat.le_refl _) x fun i hi e => h (by
    rw [List.getD_eq_getElem?_getD, List.getElem?_eq_getElem hi] at e
    simp only [Option.getD_some] at e
    rw [← e]
    exact List.getElem_mem hi)

/-- the program's comparison of two values, by the maps of two lists of objects -/
theorem psame_any (n m b0 b1 : Nat) (r s : List Nat) (a b : V) (w : World) (hm0 : IMap w b0 r.length (idxMap r r.length)) (hm1 : IMap w b1 s.length (idxMap s s.length)) (hn : n ≤ 200) (hm : m ≤ 200)
    (hr : Cl.Good n r) (hs : Cl.Good m s) :
    Calls Try.prog 21 #[mAgg n m b0 b1, vAgg a, vAgg b] w fun e w' => e = .returned (.bool (pSame n r m s a b)) ∧ Below w.heap.size w w' := by
  by_cases ha : among n a = 0
  · by_cases hb : among m b = 0
    · have : pSame n r m s a b = plainSame a b := by unfold pSame; rw [if_pos ⟨ha, hb⟩]
      rw [this]
      exact psame_plain n m b0 b1 a b w ha hb
    · have h0 : (0 : Nat) ∉ r := fun h => by have := hr.2 0 h; omega
      have : pSame n r m s a b = false := by unfold pSame; rw [if_neg (fun h => hb h.2), ha, decide_eq_false h0]; rfl
      rw [this]
      exact psame_half n m b0 b1 _ _ _ _ a b w hm0 hm1 (by omega) (by omega) ha (by omega) (idxMap_no h0).1
  · have e : pSame n r m s a b = (decide (among n a ∈ r) && decide (among m b ∈ s) && (r.idxOf (among n a) == s.idxOf (among m b))) := by unfold pSame; rw [if_neg (fun h => ha h.1)]
    rw [e]
    by_cases h1 : among n a ∈ r
    · by_cases h2 : among m b ∈ s
      · refine (psame_obj n m b0 b1 _ _ _ _ a b w hm0 hm1 (by omega) (by omega) (by omega) _ _ (idxMap_mem hr.1 h1).2 (idxMap_mem hs.1 h2).2).mono fun e' w' h => ⟨h.1.trans (ret_b ?_), h.2⟩
        rw [(idxMap_mem hr.1 h1).1, (idxMap_mem hs.1 h2).1, decide_eq_true h1, decide_eq_true h2]
        simp only [Bool.true_and]
        rw [Bool.eq_iff_iff, beq_iff_eq, beq_iff_eq]
        omega
      · refine (psame_obj n m b0 b1 _ _ _ _ a b w hm0 hm1 (by omega) (by omega) (by omega) _ _ (idxMap_mem hr.1 h1).2 (idxMap_no h2).2).mono fun e' w' h => ⟨h.1.trans (ret_b ?_), h.2⟩
        rw [(idxMap_mem hr.1 h1).1, (idxMap_no h2).1, decide_eq_true h1, decide_eq_false h2]
        rfl
    · by_cases h2 : among m b ∈ s
      · refine (psame_obj n m b0 b1 _ _ _ _ a b w hm0 hm1 (by omega) (by omega) (by omega) _ _ (idxMap_no h1).2 (idxMap_mem hs.1 h2).2).mono fun e' w' h => ⟨h.1.trans (ret_b ?_), h.2⟩
        rw [(idxMap_no h1).1, decide_eq_false h1]
        rfl
      · refine (psame_obj n m b0 b1 _ _ _ _ a b w hm0 hm1 (by omega) (by omega) (by omega) _ _ (idxMap_no h1).2 (idxMap_no h2).2).mono fun e' w' h => ⟨h.1.trans (ret_b ?_), h.2⟩
        rw [(idxMap_no h1).1, decide_eq_false h1]
        rfl

end Go.Proofs.Ytkkcacpcicnihaa
