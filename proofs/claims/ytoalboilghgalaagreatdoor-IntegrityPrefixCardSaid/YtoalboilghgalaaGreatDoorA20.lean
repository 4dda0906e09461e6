/- Lemmas for this claim, in parts: Props. -/
import Derived.Test.YtoalboilghgalaaGreatDoorA18
import Derived.Test.YtoalboilghgalaaGreatDoorA19
/- Properties by key, and what fixing them makes of them: plain Lean. -/
namespace Go.Proofs.YtoalboilghgalaaGreatDoor
open Go.RowKit
open Go.Proofs.Dc (V Ds Ky)

theorem keq_refl (a : Ky) : keq a a = true := by simp [keq]
theorem keq_symm {a b : Ky} (h : keq a b = true) : keq b a = true := by
  simp only [keq, Bool.and_eq_true, beq_iff_eq] at h ⊢; exact ⟨h.1.symm, h.2.symm⟩
theorem keq_trans {a b c : Ky} (h : keq a b = true) (h' : keq b c = true) : keq a c = true := by
  simp only [keq, Bool.and_eq_true, beq_iff_eq] at h h' ⊢; exact ⟨h.1.trans h'.1, h.2.trans h'.2⟩

/-- a key's descriptor -/
def getL : List (Ky × Ds) → Ky → Option Ds
  | [], _ => none
  | a :: r, k => if keq k a.1 then some a.2 else getL r k
/-- .. is laid -/
def putL : List (Ky × Ds) → Ky → Ds → List (Ky × Ds)
  | [], k, d => [(k, d)]
  | a :: r, k, d => if keq k a.1 then (a.1, d) :: r else a :: putL r k d

theorem getL_cons (a : Ky × Ds) (r : List (Ky × Ds)) (k : Ky) : getL (a :: r) k = if keq k a.1 = true then some a.2 else getL r k := rfl
theorem putL_cons (a : Ky × Ds) (r : List (Ky × Ds)) (k : Ky) (d : Ds) : putL (a :: r) k d = if keq k a.1 = true then (a.1, d) :: r else a :: putL r k d := rfl
theorem keyAt_cons (a : Ky) (r : List Ky) (k : Ky) : keyAt (a :: r) k = if keq k a = true then some 0 else (keyAt r k).map (· + 1) := rfl

theorem getL_keyAt : ∀ (L : List (Ky × Ds)) (k : Ky), getL L k = (keyAt (L.map (·.1)) k).bind fun i => (L[i]?).map (·.2)
  | [], _ => rfl
  | a :: r, k => by
    rw [getL_cons, List.map_cons, keyAt_cons, getL_keyAt r k]
    generalize keq k a.1 = b
    cases b
    · cases keyAt (r.map (·.1)) k <;> simp
    · simp
theorem putL_new : ∀ (L : List (Ky × Ds)) (k : Ky) (d : Ds), keyAt (L.map (·.1)) k = none → putL L k d = L ++ [(k, d)]
  | [], _, _, _ => rfl
  | a :: r, k, d, h => by
    rw [List.map_cons, keyAt_cons] at h
    rw [putL_cons]
    generalize keq k a.1 = b at h ⊢
    cases b
    · simp only [Bool.false_eq_true, if_false, Option.map_eq_none_iff] at h ⊢
      rw [putL_new r k d h]; rfl
    · simp at h
theorem putL_old : ∀ (L : List (Ky × Ds)) (k : Ky) (d : Ds) (i : Nat) (hi : i < L.length), keyAt (L.map (·.1)) k = some i → putL L k d = L.set i (L[i].1, d)
  | [], _, _, _, hi, _ => absurd hi (Nat.not_lt_zero _)
  | a :: r, k, d, i, hi, h => by
    rw [List.map_cons, keyAt_cons] at h
    rw [putL_cons]
    generalize keq k a.1 = b at h ⊢
    cases b
    · simp only [Bool.false_eq_true, if_false, Option.map_eq_some_iff] at h ⊢
      obtain ⟨n, hn, rfl⟩ := h
      rw [putL_old r k d n (by simpa using hi) hn]
      simp
    · simp only [if_true, Option.some.injEq] at h ⊢
      subst h
      simp
theorem keyAt_none_get {L : List (Ky × Ds)} {k : Ky} : keyAt (L.map (·.1)) k = none ↔ getL L k = none := by
  rw [getL_keyAt]
  cases h : keyAt (L.map (·.1)) k with
  | none => simp
  | some i => have := keyAt_lt h; simp at this; simp [this]

theorem get_put : ∀ (L : List (Ky × Ds)) (k k' : Ky) (d : Ds), getL (putL L k d) k' = if keq k' k = true then some d else getL L k'
  | [], _, _, _ => rfl
  | a :: r, k, k', d => by
    rw [putL_cons, getL_cons]
    by_cases h : keq k a.1 = true
    · rw [if_pos h, getL_cons]
      by_cases h2 : keq k' k = true
      · rw [if_pos h2, if_pos (keq_trans h2 h)]
      · have h3 : ¬ keq k' a.1 = true := fun h3 => h2 (keq_trans h3 (keq_symm h))
        rw [if_neg h2, if_neg h3, if_neg h3]
    · rw [if_neg h, getL_cons, get_put r k k' d]
      by_cases h2 : keq k' k = true
      · have h3 : ¬ keq k' a.1 = true := fun h3 => h (keq_trans (keq_symm h2) h3)
        rw [if_neg h3, if_pos h2, if_pos h2]
      · rw [if_neg h2, if_neg h2]
theorem keys_put : ∀ (L : List (Ky × Ds)) (k : Ky) (d : Ds), getL L k ≠ none → (putL L k d).map (·.1) = L.map (·.1)
  | [], _, _, h => absurd rfl h
  | a :: r, k, d, h => by
    rw [putL_cons]
    rw [getL_cons] at h
    by_cases h1 : keq k a.1 = true
    · rw [if_pos h1]; rfl
    · rw [if_neg h1] at h ⊢
      rw [List.map_cons, keys_put r k d h, List.map_cons]
theorem get_of_mem : ∀ {L : List (Ky × Ds)} {k : Ky}, k ∈ L.map (·.1) → ∃ d, getL L k = some d
  | [], _, h => by cases h
  | a :: r, k, h => by
    rw [getL_cons]
    by_cases h1 : keq k a.1 = true
    · exact ⟨_, if_pos h1⟩
    · rw [if_neg h1]
      rcases List.mem_cons.1 h with h | h
      · exact absurd (by rw [h]; exact keq_refl _) h1
      · exact get_of_mem h
theorem get_mem : ∀ {L : List (Ky × Ds)} {k : Ky} {d : Ds}, getL L k = some d → ∃ p ∈ L, p.2 = d
  | [], _, _, h => by cases h
  | a :: r, k, d, h => by
    rw [getL_cons] at h
    by_cases h1 : keq k a.1 = true
    · rw [if_pos h1] at h
      exact ⟨a, by simp, by simpa using h⟩
    · rw [if_neg h1] at h
      obtain ⟨p, hp, he⟩ := get_mem h
      exact ⟨p, by simp [hp], he⟩

/-- no two keys are the same -/
def KNodup : List Ky → Prop := List.Pairwise fun a b => keq a b = false
theorem KNodup.perm {a b : List Ky} (h : a.Perm b) (hb : KNodup b) : KNodup a :=
  (h.pairwise_iff (R := fun a b => keq a b = false) (fun {x y} hxy => by
    cases e : keq y x with
    | false => rfl
    | true => rw [keq_symm e] at hxy; cases hxy)).2 hb

theorem nodup_put : ∀ {L : List (Ky × Ds)} {k : Ky} {d : Ds}, KNodup (L.map (·.1)) → KNodup ((putL L k d).map (·.1)) := by
  intro L k d h
  by_cases hg : getL L k = none
  · rw [putL_new _ _ _ (keyAt_none_get.2 hg), List.map_append]
    refine List.pairwise_append.2 ⟨h, by simp, fun a ha b hb => ?_⟩
    obtain rfl : b = k := by simpa using hb
    cases e : keq a b with
    | false => rfl
    | true =>
      exfalso
      obtain ⟨p, hp, rfl⟩ := List.mem_map.1 ha
      have : ∀ (M : List (Ky × Ds)), p ∈ M → getL M b ≠ none := by
        intro M hM
        induction M with
        | nil => cases hM
        | cons q r ih =>
          unfold getL
          split
          · simp
          · rename_i hq
            rcases List.mem_cons.1 hM with rfl | hM
            · exact absurd (keq_symm e) hq
            · exact ih hM
      exact this L hp hg
  · rw [keys_put _ _ _ hg]; exact h

/-- what fixing makes of a property -/
def fixD (frozen : Bool) (d : Ds) : Ds := if frozen && Dc.there d.val then { d with w := 1, c := 1 } else { d with c := 1 }
/-- .. of those with some keys, one behind the other -/
def fixAll (frozen : Bool) : List Ky → List (Ky × Ds) → List (Ky × Ds)
  | [], L => L
  | k :: r, L => fixAll frozen r (putL L k (fixD frozen ((getL L k).getD Dc.d0)))

theorem fixAll_keys (fz : Bool) : ∀ (K : List Ky) (L : List (Ky × Ds)), (∀ k ∈ K, getL L k ≠ none) → (fixAll fz K L).map (·.1) = L.map (·.1)
  | [], _, _ => rfl
  | k :: r, L, h => by
    rw [fixAll, fixAll_keys fz r _ (fun k' hk' => ?_), keys_put _ _ _ (h k (by simp))]
    rw [get_put]; split
    · simp
    · exact h k' (by simp [hk'])

theorem fixAll_get (fz : Bool) : ∀ (K : List Ky) (L : List (Ky × Ds)), KNodup K → ∀ k', getL (fixAll fz K L) k' = if K.any (keq k') then some (fixD fz ((getL L k').getD Dc.d0)) else getL L k'
  | [], _, _, k' => rfl
  | k :: r, L, h, k' => by
    rw [fixAll, fixAll_get fz r _ (List.pairwise_cons.1 h).2, get_put]
    have h1 := (List.pairwise_cons.1 h).1
    simp only [List.any_cons]
    by_cases e : keq k' k = true
    · have hr : r.any (keq k') = false := by
        rw [List.any_eq_false]
        intro x hx hq
        have := h1 x hx
        rw [keq_trans (keq_symm e) hq] at this; cases this
      simp only [e, hr, Bool.true_or, if_true, Bool.false_eq_true, if_false, Option.some.injEq]
      have hL : ∀ (M : List (Ky × Ds)), getL M k' = getL M k := by
        intro M
        induction M with
        | nil => rfl
        | cons q s ih =>
          simp only [getL, ih]
          by_cases hq : keq k q.1 = true
          · rw [if_pos hq, if_pos (keq_trans e hq)]
          · rw [if_neg hq, if_neg (fun hq' => hq (keq_trans (keq_symm e) hq'))]
      rw [hL]
    · simp only [e, Bool.false_or, if_false, Bool.false_eq_true]

/-- all that is said of an object's properties -/
structure LOk (L : List (Ky × Ds)) : Prop where
  nodup : KNodup (L.map (·.1))
  whole : ∀ p ∈ L, Dc.Whole uvalid p.2
  keys : ∀ p ∈ L, kgood p.1 = true

theorem LOk.get {L : List (Ky × Ds)} (h : LOk L) {k : Ky} {d : Ds} (hg : getL L k = some d) : Dc.Whole uvalid d := by
  obtain ⟨p, hp, rfl⟩ := get_mem hg
  exact h.whole p hp
theorem mem_put : ∀ {L : List (Ky × Ds)} {k : Ky} {d : Ds} {p : Ky × Ds}, p ∈ putL L k d → p ∈ L ∨ (p.2 = d ∧ (p.1 = k ∨ ∃ q ∈ L, q.1 = p.1))
  | [], k, d, p, h => by obtain rfl : p = (k, d) := by simpa [putL] using h
                         exact .inr ⟨rfl, .inl rfl⟩
  | a :: r, k, d, p, h => by
    unfold putL at h
    split at h
    · rcases List.mem_cons.1 h with rfl | h
      · exact .inr ⟨rfl, .inr ⟨a, by simp, rfl⟩⟩
      · exact .inl (by simp [h])
    · rcases List.mem_cons.1 h with rfl | h
      · exact .inl (by simp)
      · rcases mem_put h with h | ⟨h1, h2 | ⟨q, hq, he⟩⟩
        · exact .inl (by simp [h])
        · exact .inr ⟨h1, .inl h2⟩
        · exact .inr ⟨h1, .inr ⟨q, by simp [hq], he⟩⟩
theorem LOk.put {L : List (Ky × Ds)} (h : LOk L) {k : Ky} {d : Ds} (hk : kgood k = true) (hd : Dc.Whole uvalid d) : LOk (putL L k d) where
  nodup := nodup_put h.nodup
  whole := fun p hp => by
    rcases mem_put hp with hp | ⟨rfl, _⟩
    · exact h.whole p hp
    · exact hd
  keys := fun p hp => by
    rcases mem_put hp with hp | ⟨_, rfl | ⟨q, hq, he⟩⟩
    · exact h.keys p hp
    · exact hk
    · rw [← he]; exact h.keys q hq

end Go.Proofs.YtoalboilghgalaaGreatDoor
