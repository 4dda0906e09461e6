/- Lemmas for this claim, in parts: Props, Gtab, Gtab2, Maps. -/
import Derived.Test.YtoalboilghgalaaGreatDoorC12
import Derived.Test.YtoalboilghgalaaGreatDoorC13
set_option maxRecDepth 100000
set_option maxHeartbeats 4000000
set_option linter.unusedVariables false
set_option linter.unusedSimpArgs false
/- Properties by key, and what fixing them makes of them: plain Lean. -/
namespace Go.Proofs.YtoalboilghgalaaGreatDoor
open Go.RowKit
open Go.Proofs.Dc (V Ds Ky)

/-- where a key stands -/
def keyAt : List Ky → Ky → Option Nat
  | [], _ => none
  | a :: r, k => if keq k a then some 0 else (keyAt r k).map (· + 1)
theorem keyAt_lt : ∀ {L : List Ky} {k : Ky} {i : Nat}, keyAt L k = some i → i < L.length
  | [], _, _, h => by simp [keyAt] at h
  | a :: r, k, i, h => by
    unfold keyAt at h
    split at h
    · simp at h; simp [← h]
    · cases hq : keyAt r k with
      | none => simp [hq] at h
      | some n => simp [hq] at h; have := keyAt_lt hq; simp; omega

theorem keq_refl (a : Ky) : keq a a = true := by simp [keq]
theorem keq_symm {a b : Ky} (h : keq a b = true) : keq b a = true := by
  simp only [keq, Bool.and_eq_true, beq_iff_eq] at h ⊢; exact ⟨h.1.symm, h.2.symm⟩
theorem keq_trans {a b c : Ky} (h : keq a b = true) (h' : keq b c = true) : keq a c = true := by
  simp only [keq, Bool.and_eq_true, beq_iff_eq] at h h' ⊢; exact ⟨h.1.trans h'.1, h.2.trans h'.2⟩

theorem toList_inj {a b : ByteArray} (h : a.toList = b.toList) : a = b := by
  rw [ByteArray.toList_eq, ByteArray.toList_eq] at h
  exact ByteArray.ext (Array.toList_inj.1 h)
theorem keq_eq {a b : Ky} (h : keq a b = true) : a = b := by
  cases a; cases b
  simp only [keq, Bool.and_eq_true, beq_iff_eq] at h
  rw [toList_inj h.1, h.2]

/-- a key's descriptor -/
def getL : List (Ky × Ds) → Ky → Option Ds
  | [], _ => none
  | a :: r, k => if keq k a.1 then some a.2 else getL r k
/-- .. is laid -/
def putL : List (Ky × Ds) → Ky → Ds → List (Ky × Ds)
  | [], k, d => [(k, d)]
  | a :: r, k, d => if keq k a.1 then (a.1, d) :: r else a :: putL r k d

theorem getL_cons (a : Ky × Ds) (r : List (Ky × Ds)) (k : Ky) : getL (a :: r) k = if keq k a.1 = true then some a.2 else getL r k := rfl
theorem putL_cons (a : Ky × Ds) (r : List (Ky × Ds)) (k : Ky) (d : Ds) : putL (a :: r) k d = if keq k a.1 = true then (a.1, d) :: r else a :: putL r k d := rfl
theorem keyAt_cons (a : Ky) (r : List Ky) (k : Ky) : keyAt (a :: r) k = if keq k a = true then some 0 else (keyAt r k).map (· + 1) := rfl

theorem getL_keyAt : ∀ (L : List (Ky × Ds)) (k : Ky), getL L k = (keyAt (L.map (·.1)) k).bind fun i => (L[i]?).map (·.2)
  | [], _ => rfl
  | a :: r, k => by
    rw [getL_cons, List.map_cons, keyAt_cons, getL_keyAt r k]
    generalize keq k a.1 = b
    cases b
    · cases keyAt (r.map (·.1)) k <;> simp
    · simp
theorem putL_new : ∀ (L : List (Ky × Ds)) (k : Ky) (d : Ds), keyAt (L.map (·.1)) k = none → putL L k d = L ++ [(k, d)]
  | [], _, _, _ => rfl
  | a :: r, k, d, h => by
    rw [List.map_cons, keyAt_cons] at h
    rw [putL_cons]
    generalize keq k a.1 = b at h ⊢
    cases b
    · simp only [Bool.false_eq_true, if_false, Option.map_eq_none_iff] at h ⊢
      rw [putL_new r k d h]; rfl
    · simp at h
theorem putL_old : ∀ (L : List (Ky × Ds)) (k : Ky) (d : Ds) (i : Nat) (hi : i < L.length), keyAt (L.map (·.1)) k = some i → putL L k d = L.set i (L[i].1, d)
  | [], _, _, _, hi, _ => absurd hi (Nat.not_lt_zero _)
  | a :: r, k, d, i, hi, h => by
    rw [List.map_cons, keyAt_cons] at h
    rw [putL_cons]
    generalize keq k a.1 = b at h ⊢
    cases b
    · simp only [Bool.false_eq_true, if_false, Option.map_eq_some_iff] at h ⊢
      obtain ⟨n, hn, rfl⟩ := h
      rw [putL_old r k d n (by simpa using hi) hn]
      simp
    · simp only [if_true, Option.some.injEq] at h ⊢
      subst h
      simp
theorem keyAt_none_get {L : List (Ky × Ds)} {k : Ky} : keyAt (L.map (·.1)) k = none ↔ getL L k = none := by
  rw [getL_keyAt]
  cases h : keyAt (L.map (·.1)) k with
  | none => simp
  | some i => have := keyAt_lt h; simp at this; simp [this]

theorem get_put : ∀ (L : List (Ky × Ds)) (k k' : Ky) (d : Ds), getL (putL L k d) k' = if keq k' k = true then some d else getL L k'
  | [], _, _, _ => rfl
  | a :: r, k, k', d => by
    rw [putL_cons, getL_cons]
    by_cases h : keq k a.1 = true
    · rw [if_pos h, getL_cons]
      by_cases h2 : keq k' k = true
      · rw [if_pos h2, if_pos (keq_trans h2 h)]
      · have h3 : ¬ keq k' a.1 = true := fun h3 => h2 (keq_trans h3 (keq_symm h))
        rw [if_neg h2, if_neg h3, if_neg h3]
    · rw [if_neg h, getL_cons, get_put r k k' d]
      by_cases h2 : keq k' k = true
      · have h3 : ¬ keq k' a.1 = true := fun h3 => h (keq_trans (keq_symm h2) h3)
        rw [if_neg h3, if_pos h2, if_pos h2]
      · rw [if_neg h2, if_neg h2]
theorem keys_put : ∀ (L : List (Ky × Ds)) (k : Ky) (d : Ds), getL L k ≠ none → (putL L k d).map (·.1) = L.map (·.1)
  | [], _, _, h => absurd rfl h
  | a :: r, k, d, h => by
    rw [putL_cons]
    rw [getL_cons] at h
    by_cases h1 : keq k a.1 = true
    · rw [if_pos h1]; rfl
    · rw [if_neg h1] at h ⊢
      rw [List.map_cons, keys_put r k d h, List.map_cons]
theorem get_of_mem : ∀ {L : List (Ky × Ds)} {k : Ky}, k ∈ L.map (·.1) → ∃ d, getL L k = some d
  | [], _, h => by cases h
  | a :: r, k, h => by
    rw [getL_cons]
    by_cases h1 : keq k a.1 = true
    · exact ⟨_, if_pos h1⟩
    · rw [if_neg h1]
      rcases List.mem_cons.1 h with h | h
      · exact absurd (by rw [h]; exact keq_refl _) h1
      · exact get_of_mem h
theorem get_mem : ∀ {L : List (Ky × Ds)} {k : Ky} {d : Ds}, getL L k = some d → ∃ p ∈ L, p.2 = d
  | [], _, _, h => by cases h
  | a :: r, k, d, h => by
    rw [getL_cons] at h
    by_cases h1 : keq k a.1 = true
    · rw [if_pos h1] at h
      exact ⟨a, by simp, by simpa using h⟩
    · rw [if_neg h1] at h
      obtain ⟨p, hp, he⟩ := get_mem h
      exact ⟨p, by simp [hp], he⟩

/-- no two keys are the same -/
def KNodup : List Ky → Prop := List.Pairwise fun a b => keq a b = false
theorem KNodup.perm {a b : List Ky} (h : a.Perm b) (hb : KNodup b) : KNodup a :=
  (h.pairwise_iff (R := fun a b => keq a b = false) (fun {x y} hxy => by
    cases e : keq y x with
    | false => rfl
    | true => rw [keq_symm e] at hxy; cases hxy)).2 hb

theorem nodup_put : ∀ {L : List (Ky × Ds)} {k : Ky} {d : Ds}, KNodup (L.map (·.1)) → KNodup ((putL L k d).map (·.1)) := by
  intro L k d h
  by_cases hg : getL L k = none
  · rw [putL_new _ _ _ (keyAt_none_get.2 hg), List.map_append]
    refine List.pairwise_append.2 ⟨h, by simp, fun a ha b hb => ?_⟩
    obtain rfl : b = k := by simpa using hb
    cases e : keq a b with
    | false => rfl
    | true =>
      exfalso
      obtain ⟨p, hp, rfl⟩ := List.mem_map.1 ha
      have : ∀ (M : List (Ky × Ds)), p ∈ M → getL M b ≠ none := by
        intro M hM
        induction M with
        | nil => cases hM
        | cons q r ih =>
          unfold getL
          split
          · simp
          · rename_i hq
            rcases List.mem_cons.1 hM with rfl | hM
            · exact absurd (keq_symm e) hq
            · exact ih hM
      exact this L hp hg
  · rw [keys_put _ _ _ hg]; exact h

/-- what fixing makes of a property -/
def fixD (frozen : Bool) (d : Ds) : Ds := if frozen && Dc.there d.val then { d with w := 1, c := 1 } else { d with c := 1 }
/-- .. of those with some keys, one behind the other -/
def fixAll (frozen : Bool) : List Ky → List (Ky × Ds) → List (Ky × Ds)
  | [], L => L
  | k :: r, L => fixAll frozen r (putL L k (fixD frozen ((getL L k).getD Dc.d0)))

theorem fixAll_keys (fz : Bool) : ∀ (K : List Ky) (L : List (Ky × Ds)), (∀ k ∈ K, getL L k ≠ none) → (fixAll fz K L).map (·.1) = L.map (·.1)
  | [], _, _ => rfl
  | k :: r, L, h => by
    rw [fixAll, fixAll_keys fz r _ (fun k' hk' => ?_), keys_put _ _ _ (h k (by simp))]
    rw [get_put]; split
    · simp
    · exact h k' (by simp [hk'])

theorem fixAll_get (fz : Bool) : ∀ (K : List Ky) (L : List (Ky × Ds)), KNodup K → ∀ k', getL (fixAll fz K L) k' = if K.any (keq k') then some (fixD fz ((getL L k').getD Dc.d0)) else getL L k'
  | [], _, _, k' => rfl
  | k :: r, L, h, k' => by
    rw [fixAll, fixAll_get fz r _ (List.pairwise_cons.1 h).2, get_put]
    have h1 := (List.pairwise_cons.1 h).1
    simp only [List.any_cons]
    by_cases e : keq k' k = true
    · have hr : r.any (keq k') = false := by
        rw [List.any_eq_false]
        intro x hx hq
        have := h1 x hx
        rw [keq_trans (keq_symm e) hq] at this; cases this
      simp only [e, hr, Bool.true_or, if_true, Bool.false_eq_true, if_false, Option.some.injEq]
      have hL : ∀ (M : List (Ky × Ds)), getL M k' = getL M k := by
        intro M
        induction M with
        | nil => rfl
        | cons q s ih =>
          simp only [getL, ih]
          by_cases hq : keq k q.1 = true
          · rw [if_pos hq, if_pos (keq_trans e hq)]
          · rw [if_neg hq, if_neg (fun hq' => hq (keq_trans (keq_symm e) hq'))]
      rw [hL]
    · simp only [e, Bool.false_or, if_false, Bool.false_eq_true]

/-- all that is said of an object's properties -/
structure LOk (L : List (Ky × Ds)) : Prop where
  nodup : KNodup (L.map (·.1))
  whole : ∀ p ∈ L, Dc.Whole uvalid p.2
  keys : ∀ p ∈ L, kgood p.1 = true

theorem LOk.get {L : List (Ky × Ds)} (h : LOk L) {k : Ky} {d : Ds} (hg : getL L k = some d) : Dc.Whole uvalid d := by
  obtain ⟨p, hp, rfl⟩ := get_mem hg
  exact h.whole p hp
theorem mem_put : ∀ {L : List (Ky × Ds)} {k : Ky} {d : Ds} {p : Ky × Ds}, p ∈ putL L k d → p ∈ L ∨ (p.2 = d ∧ (p.1 = k ∨ ∃ q ∈ L, q.1 = p.1))
  | [], k, d, p, h => by obtain rfl : p = (k, d) := by simpa [putL] using h
                         exact .inr ⟨rfl, .inl rfl⟩
  | a :: r, k, d, p, h => by
    unfold putL at h
    split at h
    · rcases List.mem_cons.1 h with rfl | h
      · exact .inr ⟨rfl, .inr ⟨a, by simp, rfl⟩⟩
      · exact .inl (by simp [h])
    · rcases List.mem_cons.1 h with rfl | h
      · exact .inl (by simp)
      · rcases mem_put h with h | ⟨h1, h2 | ⟨q, hq, he⟩⟩
        · exact .inl (by simp [h])
        · exact .inr ⟨h1, .inl h2⟩
        · exact .inr ⟨h1, .inr ⟨q, by simp [hq], he⟩⟩
theorem LOk.put {L : List (Ky × Ds)} (h : LOk L) {k : Ky} {d : Ds} (hk : kgood k = true) (hd : Dc.Whole uvalid d) : LOk (putL L k d) where
  nodup := nodup_put h.nodup
  whole := fun p hp => by
    rcases mem_put hp with hp | ⟨rfl, _⟩
    · exact h.whole p hp
    · exact hd
  keys := fun p hp => by
    rcases mem_put hp with hp | ⟨_, rfl | ⟨q, hq, he⟩⟩
    · exact h.keys p hp
    · exact hk
    · rw [← he]; exact h.keys q hq

end Go.Proofs.YtoalboilghgalaaGreatDoor

/- A table with gaps: plain Lean. -/
namespace Go.Proofs.YtoalboilghgalaaGreatDoor
open Go.RowKit
open Go.Proofs.Dc (V Ds Ky)

/-- an entry: a property, or a gap where one was; its number -/
structure GE where
  p : Ky × Ds
  n : Nat
  gone : Bool

/-- what stands in a gap -/
def gapP : Ky × Ds := (⟨⟨#[]⟩, 0⟩, Dc.d0)
def gCells (e : GE) : List Value := (kArr e.p.1).toList ++ (dArr e.p.2).toList ++ [.int .u64 (e.n : Nat), .bool e.gone]
/-- all entries' cells -/
def gAll : List GE → List Value
  | [] => []
  | e :: r => gCells e ++ gAll r
/-- those that stand -/
def live : List GE → List GE
  | [] => []
  | e :: r => if e.gone = true then live r else e :: live r
/-- their properties -/
def liveP (E : List GE) : List (Ky × Ds) := (live E).map (·.p)
/-- where a key stands -/
def findE : List GE → Ky → Option Nat
  | [], _ => none
  | e :: r, k => if e.gone = false ∧ keq k e.p.1 = true then some 0 else (findE r k).map (· + 1)
/-- a key's entry in a map, and its place -/
def placeM : List (Ky × Nat) → Ky → Option (Nat × Nat)
  | [], _ => none
  | a :: r, k => if keq k a.1 = true then some (0, a.2) else (placeM r k).map fun x => (x.1 + 1, x.2)
/-- a key is taken out -/
def delL : List (Ky × Ds) → Ky → List (Ky × Ds)
  | [], _ => []
  | a :: r, k => if keq k a.1 = true then r else a :: delL r k

theorem gCells_length (e : GE) : (gCells e).length = 22 := rfl
theorem gAll_length : ∀ (E : List GE), (gAll E).length = E.length * 22
  | [] => rfl
  | e :: r => by rw [gAll, List.length_append, gCells_length, gAll_length r]; simp; omega
theorem gAll_append : ∀ (E F : List GE), gAll (E ++ F) = gAll E ++ gAll F
  | [], F => by simp [gAll]
  | e :: r, F => by rw [List.cons_append, gAll, gAll_append r, gAll, List.append_assoc]
theorem gAll_snoc (E : List GE) (e : GE) : gAll (E ++ [e]) = gAll E ++ gCells e := by rw [gAll_append]; simp [gAll]
theorem gAll_get : ∀ (E : List GE) (i j : Nat) (hi : i < E.length), j < 22 → (gAll E)[i * 22 + j]? = (gCells E[i])[j]?
  | [], _, _, hi, _ => absurd hi (Nat.not_lt_zero _)
  | e :: r, 0, j, _, hj => by
    rw [gAll, List.getElem?_append_left (by rw [gCells_length]; omega)]; simp
  | e :: r, i + 1, j, hi, hj => by
    rw [gAll, List.getElem?_append_right (by rw [gCells_length]; omega), gCells_length, show (i + 1) * 22 + j - 22 = i * 22 + j by omega, gAll_get r i j (by simpa using hi) hj]
    rfl
theorem gAll_set : ∀ (E : List GE) (i : Nat) (_ : i < E.length) (e : GE), gAll (E.set i e) = (gAll E).take (i * 22) ++ gCells e ++ (gAll E).drop (i * 22 + 22)
  | [], _, hi, _ => absurd hi (Nat.not_lt_zero _)
  | a :: r, 0, _, e => by
    have h := gCells_length a
    simp only [List.set_cons_zero, gAll]
    generalize gCells a = A at h ⊢
    rw [Nat.zero_mul, Nat.zero_add, List.take_zero, List.nil_append, List.drop_left' h]
  | a :: r, i + 1, hi, e => by
    have h := gCells_length a
    simp only [List.set_cons_succ, gAll]
    rw [gAll_set r i (by simpa using hi) e]
    generalize gCells a = A at h ⊢
    generalize gCells e = B
    rw [List.take_append, List.drop_append, h, List.take_of_length_le (l := A) (by omega), show List.drop ((i + 1) * 22 + 22) A = [] from List.drop_eq_nil_of_le (by omega), show (i + 1) * 22 - 22 = i * 22 by omega, show (i + 1) * 22 + 22 - 22 = i * 22 + 22 by omega]
    simp only [List.append_assoc, List.nil_append]

theorem live_append : ∀ (E F : List GE), live (E ++ F) = live E ++ live F
  | [], F => rfl
  | e :: r, F => by rw [List.cons_append, live, live, live_append r]; split <;> rfl
theorem live_mem : ∀ {E : List GE} {e : GE}, e ∈ live E ↔ e ∈ E ∧ e.gone = false
  | [], e => by simp [live]
  | a :: r, e => by
    rw [live]
    by_cases h : a.gone = true
    · rw [if_pos h, live_mem, List.mem_cons]
      constructor
      · rintro ⟨h1, h2⟩; exact ⟨.inr h1, h2⟩
      · rintro ⟨rfl | h1, h2⟩
        · rw [h] at h2; cases h2
        · exact ⟨h1, h2⟩
    · rw [if_neg h, List.mem_cons, live_mem, List.mem_cons]
      constructor
      · rintro (rfl | ⟨h1, h2⟩)
        · exact ⟨.inl rfl, by simpa using h⟩
        · exact ⟨.inr h1, h2⟩
      · rintro ⟨rfl | h1, h2⟩
        · exact .inl rfl
        · exact .inr ⟨h1, h2⟩
theorem live_sub (E : List GE) : (live E).Sublist E := by
  induction E with
  | nil => exact .slnil
  | cons a r ih =>
    rw [live]; split
    · exact ih.cons _
    · exact ih.cons_cons _
theorem live_live (E : List GE) : live (live E) = live E := by
  have : ∀ (E : List GE), (∀ e ∈ E, e.gone = false) → live E = E := by
    intro E
    induction E with
    | nil => intro _; rfl
    | cons a r ih =>
      intro h
      rw [live, if_neg (by rw [h a (by simp)]; simp), ih fun e he => h e (by simp [he])]
  exact this _ fun e he => (live_mem.1 he).2

theorem findE_lt : ∀ {E : List GE} {k : Ky} {i : Nat}, findE E k = some i → i < E.length
  | [], _, _, h => by cases h
  | e :: r, k, i, h => by
    rw [findE] at h
    split at h
    · cases h; simp
    · cases hq : findE r k with
      | none => rw [hq] at h; cases h
      | some n => rw [hq] at h; cases h; have := findE_lt hq; simp; omega
theorem findE_at : ∀ {E : List GE} {k : Ky} {i : Nat} (h : findE E k = some i), (E[i]'(findE_lt h)).gone = false ∧ keq k (E[i]'(findE_lt h)).p.1 = true
  | [], _, _, h => by cases h
  | e :: r, k, i, h => by
    have h0 := h
    rw [findE] at h
    split at h
    · rename_i hc
      cases h; exact hc
    · cases hq : findE r k with
      | none => rw [hq] at h; cases h
      | some n => rw [hq] at h; cases h; simpa using findE_at hq
/-- a key's descriptor by its place -/
theorem getL_find : ∀ (E : List GE) (k : Ky), getL (liveP E) k = (findE E k).bind fun i => (E[i]?).map (·.p.2)
  | [], _ => rfl
  | e :: r, k => by
    have ih := getL_find r k
    unfold liveP at ih ⊢
    rw [live, findE]
    cases hg : e.gone
    · simp only [Bool.false_eq_true, if_false, List.map_cons, getL_cons, true_and]
      rw [ih]
      by_cases hk : keq k e.p.1 = true
      · rw [if_pos hk, if_pos hk]; rfl
      · rw [if_neg hk, if_neg hk]
        cases findE r k <;> simp
    · simp only [if_true, Bool.true_eq_false, false_and, if_false]
      rw [ih]
      cases findE r k <;> simp
theorem findE_none {E : List GE} {k : Ky} : findE E k = none ↔ getL (liveP E) k = none := by
  rw [getL_find]
  cases h : findE E k with
  | none => simp
  | some i => have := findE_lt h; simp [this]
theorem findE_append : ∀ (E : List GE) (e : GE) (k : Ky), findE (E ++ [e]) k = match findE E k with
    | some i => some i
    | none => if e.gone = false ∧ keq k e.p.1 = true then some E.length else none
  | [], e, k => by
    rw [List.nil_append, findE]; simp only [findE, List.length_nil]; split <;> rfl
  | a :: r, e, k => by
    rw [List.cons_append, findE, findE]
    split
    · rfl
    · rw [findE_append r e k]
      cases findE r k with
      | some i => rfl
      | none =>
        simp only [Option.map_none]
        split <;> simp
theorem liveP_new {E : List GE} {k : Ky} (d : Ds) (n : Nat) (h : findE E k = none) : liveP (E ++ [⟨(k, d), n, false⟩]) = putL (liveP E) k d := by
  rw [putL_new _ _ _ (keyAt_none_get.2 (findE_none.1 h))]
  unfold liveP
  rw [live_append]
  simp [live]
theorem liveP_old : ∀ (E : List GE) (k : Ky) (d : Ds) (i : Nat) (hi : i < E.length), findE E k = some i → liveP (E.set i ⟨(E[i].p.1, d), E[i].n, false⟩) = putL (liveP E) k d
  | [], _, _, _, hi, _ => absurd hi (Nat.not_lt_zero _)
  | e :: r, k, d, i, hi, h => by
    rw [findE] at h
    unfold liveP
    by_cases hc : e.gone = false ∧ keq k e.p.1 = true
    · rw [if_pos hc] at h
      cases h
      simp only [List.set_cons_zero, List.getElem_cons_zero, live, hc.1, Bool.false_eq_true, if_false, List.map_cons, putL_cons]
      rw [if_pos hc.2]
    · rw [if_neg hc] at h
      cases hq : findE r k with
      | none => rw [hq] at h; cases h
      | some n =>
        rw [hq] at h; cases h
        have ih := liveP_old r k d n (findE_lt hq) hq
        unfold liveP at ih
        simp only [List.set_cons_succ, List.getElem_cons_succ, live]
        split
        · exact ih
        · rename_i hg
          rw [List.map_cons, List.map_cons, putL_cons, if_neg (fun hk => hc ⟨by simpa using hg, hk⟩), ih]
theorem liveP_del : ∀ (E : List GE) (k : Ky) (i : Nat) (hi : i < E.length), findE E k = some i → liveP (E.set i ⟨gapP, E[i].n, true⟩) = delL (liveP E) k
  | [], _, _, hi, _ => absurd hi (Nat.not_lt_zero _)
  | e :: r, k, i, hi, h => by
    rw [findE] at h
    unfold liveP
    by_cases hc : e.gone = false ∧ keq k e.p.1 = true
    · rw [if_pos hc] at h
      cases h
      simp only [List.set_cons_zero, List.getElem_cons_zero, live, hc.1, Bool.false_eq_true, if_false, if_true, List.map_cons, delL]
      rw [if_pos hc.2]
    · rw [if_neg hc] at h
      cases hq : findE r k with
      | none => rw [hq] at h; cases h
      | some n =>
        rw [hq] at h; cases h
        have ih := liveP_del r k n (findE_lt hq) hq
        unfold liveP at ih
        simp only [List.set_cons_succ, List.getElem_cons_succ, live]
        split
        · exact ih
        · rename_i hg
          rw [List.map_cons, List.map_cons, delL, if_neg (fun hk => hc ⟨by simpa using hg, hk⟩), ih]
theorem getL_del : ∀ (L : List (Ky × Ds)) (k k' : Ky), KNodup (L.map (·.1)) → getL (delL L k) k' = if keq k' k = true then none else getL L k'
  | [], _, _, _ => by simp [delL, getL]
  | a :: r, k, k', h => by
    have h1 := (List.pairwise_cons.1 h).1
    rw [delL, getL_cons]
    by_cases hk : keq k a.1 = true
    · rw [if_pos hk]
      by_cases hq : keq k' k = true
      · rw [if_pos hq]
        have hn : ∀ (M : List (Ky × Ds)), (∀ p ∈ M, keq a.1 p.1 = false) → getL M k' = none := by
          intro M
          induction M with
          | nil => intro _; rfl
          | cons q s ih =>
            intro hM
            rw [getL_cons, if_neg, ih fun p hp => hM p (by simp [hp])]
            intro hx
            have := hM q (by simp)
            rw [keq_trans (keq_symm (keq_trans hq hk)) hx] at this; cases this
        exact hn r fun p hp => h1 _ (List.mem_map_of_mem hp)
      · rw [if_neg hq, if_neg]
        exact fun hx => hq (keq_trans hx (keq_symm hk))
    · rw [if_neg hk, getL_cons, getL_del r k k' (List.pairwise_cons.1 h).2]
      by_cases hx : keq k' a.1 = true
      · rw [if_pos hx, if_pos hx, if_neg]
        exact fun hq => hk (keq_trans (keq_symm hq) hx)
      · rw [if_neg hx, if_neg hx]
theorem del_sub : ∀ (L : List (Ky × Ds)) (k : Ky), (delL L k).Sublist L
  | [], _ => .slnil
  | a :: r, k => by
    rw [delL]; split
    · exact .cons _ (List.Sublist.refl _)
    · exact (del_sub r k).cons_cons _
theorem LOk.del {L : List (Ky × Ds)} (h : LOk L) (k : Ky) : LOk (delL L k) where
  nodup := h.nodup.sublist ((del_sub L k).map _)
  whole := fun p hp => h.whole p ((del_sub L k).subset hp)
  keys := fun p hp => h.keys p ((del_sub L k).subset hp)
theorem del_none : ∀ (L : List (Ky × Ds)) (k : Ky), getL L k = none → delL L k = L
  | [], _, _ => rfl
  | a :: r, k, h => by
    rw [getL_cons] at h
    by_cases hk : keq k a.1 = true
    · rw [if_pos hk] at h; cases h
    · rw [if_neg hk] at h
      rw [delL, if_neg hk, del_none r k h]

end Go.Proofs.YtoalboilghgalaaGreatDoor

/- A table with gaps: what its map and its numbers are; plain Lean. -/
namespace Go.Proofs.YtoalboilghgalaaGreatDoor
open Go.RowKit
open Go.Proofs.Dc (V Ds Ky)

/-- a table's entries, its map and the number given last -/
structure GOk (E : List GE) (M : List (Ky × Nat)) (last : Nat) : Prop where
  nodup : KNodup (M.map (·.1))
  place : ∀ k, (placeM M k).map (·.2) = findE E k
  len : M.length = (live E).length
  keys : KNodup ((liveP E).map (·.1))
  nums : E.Pairwise fun a b => a.n < b.n
  last : ∀ e ∈ E, e.n ≤ last
  pos : ∀ e ∈ E, 0 < e.n

theorem GOk.nil : GOk [] [] 0 := ⟨List.Pairwise.nil, fun _ => rfl, rfl, List.Pairwise.nil, List.Pairwise.nil, by simp, by simp⟩

theorem placeM_append : ∀ (M : List (Ky × Nat)) (a : Ky × Nat) (k : Ky), placeM (M ++ [a]) k = match placeM M k with
    | some x => some x
    | none => if keq k a.1 = true then some (M.length, a.2) else none
  | [], a, k => by rw [List.nil_append, placeM]; simp only [placeM, List.length_nil]; split <;> rfl
  | b :: r, a, k => by
    rw [List.cons_append, placeM, placeM]
    split
    · rfl
    · rw [placeM_append r a k]
      cases placeM r k with
      | some i => rfl
      | none => simp only [Option.map_none]; split <;> simp
theorem placeM_lt : ∀ {M : List (Ky × Nat)} {k : Ky} {x : Nat × Nat}, placeM M k = some x → x.1 < M.length
  | [], _, _, h => by cases h
  | a :: r, k, x, h => by
    rw [placeM] at h
    split at h
    · cases h; simp
    · cases hq : placeM r k with
      | none => rw [hq] at h; cases h
      | some y => rw [hq] at h; cases h; have := placeM_lt hq; simp; omega
theorem placeM_at : ∀ {M : List (Ky × Nat)} {k : Ky} {x : Nat × Nat} (h : placeM M k = some x), (M[x.1]'(placeM_lt h)).2 = x.2 ∧ keq k (M[x.1]'(placeM_lt h)).1 = true
  | [], _, _, h => by cases h
  | a :: r, k, x, h => by
    have h0 := h
    rw [placeM] at h
    split at h
    · rename_i hc
      cases h; exact ⟨rfl, hc⟩
    · cases hq : placeM r k with
      | none => rw [hq] at h; cases h
      | some y => rw [hq] at h; cases h; simpa using placeM_at hq
theorem placeM_none {M : List (Ky × Nat)} {k : Ky} : placeM M k = none ↔ ∀ a ∈ M, keq k a.1 = false := by
  induction M with
  | nil => simp [placeM]
  | cons a r ih =>
    rw [placeM]
    by_cases h : keq k a.1 = true
    · rw [if_pos h]; simp [h]
    · rw [if_neg h, Option.map_eq_none_iff, ih]; simp [h]
theorem GOk.find_none {E : List GE} {M : List (Ky × Nat)} {last : Nat} (h : GOk E M last) {k : Ky} : placeM M k = none ↔ findE E k = none := by
  rw [← h.place k, Option.map_eq_none_iff]

/-- a new key -/
theorem GOk.new {E : List GE} {M : List (Ky × Nat)} {last : Nat} (h : GOk E M last) {k : Ky} (d : Ds) (hk : findE E k = none) : GOk (E ++ [⟨(k, d), last + 1, false⟩]) (M ++ [(k, E.length)]) (last + 1) where
  nodup := by
    rw [List.map_append]
    refine List.pairwise_append.2 ⟨h.nodup, by simp, fun a ha b hb => ?_⟩
    obtain rfl : b = k := by simpa using hb
    obtain ⟨p, hp, rfl⟩ := List.mem_map.1 ha
    cases e : keq p.1 b with
    | false => rfl
    | true => have := placeM_none.1 (h.find_none.2 hk) p hp; rw [keq_symm e] at this; cases this
  place := fun k' => by
    rw [placeM_append, findE_append, ← h.place k']
    cases placeM M k' with
    | some x => rfl
    | none =>
      simp only [Option.map_none, true_and]
      split <;> rfl
  len := by rw [live_append]; simp [h.len, live]
  keys := by rw [liveP_new d _ hk]; exact nodup_put h.keys
  nums := List.pairwise_append.2 ⟨h.nums, by simp, fun a ha b hb => by
    rw [List.mem_singleton] at hb; subst hb; have := h.last a ha; show a.n < last + 1; omega⟩
  last := fun e he => by
    rcases List.mem_append.1 he with he | he
    · have := h.last e he; omega
    · rw [List.mem_singleton] at he; subst he; exact Nat.le_refl _
  pos := fun e he => by
    rcases List.mem_append.1 he with he | he
    · exact h.pos e he
    · rw [List.mem_singleton] at he; subst he; exact Nat.succ_pos _

theorem findE_set : ∀ (E : List GE) (i : Nat) (hi : i < E.length) (d : Ds) (k : Ky), findE (E.set i ⟨(E[i].p.1, d), E[i].n, E[i].gone⟩) k = findE E k
  | [], _, hi, _, _ => absurd hi (Nat.not_lt_zero _)
  | a :: r, 0, _, d, k => by rw [List.set_cons_zero, findE, findE]; rfl
  | a :: r, i + 1, hi, d, k => by
    rw [List.set_cons_succ, findE, findE]
    simp only [List.getElem_cons_succ]
    rw [findE_set r i (by simpa using hi) d k]
theorem live_set_len : ∀ (E : List GE) (i : Nat) (hi : i < E.length) (p : Ky × Ds), (live (E.set i ⟨p, E[i].n, E[i].gone⟩)).length = (live E).length
  | [], _, hi, _ => absurd hi (Nat.not_lt_zero _)
  | a :: r, 0, _, p => by
    rw [List.set_cons_zero, live, live]
    simp only [List.getElem_cons_zero]
    split <;> rfl
  | a :: r, i + 1, hi, p => by
    rw [List.set_cons_succ, live, live]
    simp only [List.getElem_cons_succ]
    split
    · exact live_set_len r i (by simpa using hi) p
    · rw [List.length_cons, List.length_cons, live_set_len r i (by simpa using hi) p]
theorem pair_set {E : List GE} (h : E.Pairwise fun a b => a.n < b.n) (i : Nat) (hi : i < E.length) (p : Ky × Ds) (g : Bool) : (E.set i ⟨p, E[i].n, g⟩).Pairwise fun a b => a.n < b.n := by
  rw [List.pairwise_iff_getElem] at h ⊢
  intro a b ha hb hab
  have e : ∀ j (hj : j < (E.set i ⟨p, E[i].n, g⟩).length), (E.set i ⟨p, E[i].n, g⟩)[j].n = (E[j]'(by simpa using hj)).n := by
    intro j hj
    rw [List.getElem_set]
    split
    · rename_i h; subst h; rfl
    · rfl
  rw [e, e]
  exact h a b (by simpa using ha) (by simpa using hb) hab
theorem mem_set_n {E : List GE} {i : Nat} {hi : i < E.length} {p : Ky × Ds} {g : Bool} {e : GE} (h : e ∈ E.set i ⟨p, E[i].n, g⟩) : ∃ e' ∈ E, e'.n = e.n := by
  rcases List.mem_or_eq_of_mem_set h with h | rfl
  · exact ⟨e, h, rfl⟩
  · exact ⟨_, List.getElem_mem hi, rfl⟩
/-- a key that stands gets another descriptor -/
theorem GOk.old {E : List GE} {M : List (Ky × Nat)} {last : Nat} (h : GOk E M last) {k : Ky} (d : Ds) {i : Nat} (hi : i < E.length) (hk : findE E k = some i) : GOk (E.set i ⟨(E[i].p.1, d), E[i].n, false⟩) M last := by
  have hg := (findE_at hk).1
  have e1 : (⟨(E[i].p.1, d), E[i].n, false⟩ : GE) = ⟨(E[i].p.1, d), E[i].n, E[i].gone⟩ := by rw [hg]
  refine ⟨h.nodup, fun k' => ?_, ?_, ?_, pair_set h.nums i hi _ _, fun e he => ?_, fun e he => ?_⟩
  · rw [e1, findE_set]; exact h.place k'
  · rw [e1, live_set_len]; exact h.len
  · rw [liveP_old E k d i hi hk]; exact nodup_put h.keys
  · obtain ⟨e', he', hn⟩ := mem_set_n he; rw [← hn]; exact h.last e' he'
  · obtain ⟨e', he', hn⟩ := mem_set_n he; rw [← hn]; exact h.pos e' he'

theorem placeM_erase : ∀ {M : List (Ky × Nat)} {k : Ky} {x : Nat × Nat} (_ : KNodup (M.map (·.1))) (_ : placeM M k = some x) (k' : Ky), (placeM (M.eraseIdx x.1) k').map (·.2) = if keq k' k = true then none else (placeM M k').map (·.2)
  | [], _, _, _, h, _ => by cases h
  | a :: r, k, x, hn, h, k' => by
    have h1 := (List.pairwise_cons.1 hn).1
    have hr := (List.pairwise_cons.1 hn).2
    rw [placeM] at h
    by_cases hk : keq k a.1 = true
    · rw [if_pos hk] at h
      cases h
      rw [List.eraseIdx_cons_zero]
      by_cases hq : keq k' k = true
      · rw [if_pos hq, Option.map_eq_none_iff, placeM_none]
        intro b hb
        cases e : keq k' b.1 with
        | false => rfl
        | true =>
          have := h1 b.1 (List.mem_map_of_mem hb)
          rw [keq_trans (keq_symm (keq_trans hq hk)) e] at this; cases this
      · rw [if_neg hq, placeM, if_neg (fun hx => hq (keq_trans hx (keq_symm hk)))]
        cases placeM r k' <;> rfl
    · rw [if_neg hk] at h
      cases hq : placeM r k with
      | none => rw [hq] at h; cases h
      | some y =>
        rw [hq] at h; cases h
        rw [List.eraseIdx_cons_succ, placeM, placeM]
        have ih := placeM_erase hr hq k'
        by_cases hx : keq k' a.1 = true
        · rw [if_pos hx, if_pos hx, if_neg (fun hq => hk (keq_trans (keq_symm hq) hx))]
        · rw [if_neg hx, if_neg hx]
          have e1 : ∀ o : Option (Nat × Nat), (o.map fun x => (x.1 + 1, x.2)).map (·.2) = o.map (·.2) := by intro o; cases o <;> rfl
          rw [e1, e1, ih]
theorem findE_del : ∀ (E : List GE) (k : Ky) (i : Nat) (hi : i < E.length) (_ : KNodup ((liveP E).map (·.1))) (_ : findE E k = some i) (k' : Ky), findE (E.set i ⟨gapP, E[i].n, true⟩) k' = if keq k' k = true then none else findE E k'
  | [], _, _, hi, _, _, _ => absurd hi (Nat.not_lt_zero _)
  | e :: r, k, i, hi, hn, h, k' => by
    rw [findE] at h
    by_cases hc : e.gone = false ∧ keq k e.p.1 = true
    · rw [if_pos hc] at h
      cases h
      have hn' : KNodup (e.p.1 :: (liveP r).map (·.1)) := by
        unfold liveP at hn; rw [live, if_neg (by rw [hc.1]; simp)] at hn; exact hn
      rw [List.set_cons_zero, findE, findE, if_neg (by simp)]
      by_cases hq : keq k' k = true
      · rw [if_pos hq, Option.map_eq_none_iff, findE_none]
        cases e2 : getL (liveP r) k' with
        | none => rfl
        | some d =>
          exfalso
          have : ∀ (L : List (Ky × Ds)), getL L k' = some d → ∃ p ∈ L, keq k' p.1 = true := by
            intro L
            induction L with
            | nil => intro h; cases h
            | cons q s ih =>
              intro h
              rw [getL_cons] at h
              by_cases hx : keq k' q.1 = true
              · exact ⟨q, by simp, hx⟩
              · rw [if_neg hx] at h
                obtain ⟨p, hp, h2⟩ := ih h
                exact ⟨p, by simp [hp], h2⟩
          obtain ⟨p, hp, h2⟩ := this _ e2
          have h3 := (List.pairwise_cons.1 hn').1 p.1 (List.mem_map_of_mem hp)
          rw [keq_trans (keq_symm (keq_trans hq hc.2)) h2] at h3; cases h3
      · rw [if_neg hq, if_neg (fun hx => hq (keq_trans hx.2 (keq_symm hc.2)))]
    · rw [if_neg hc] at h
      cases hq : findE r k with
      | none => rw [hq] at h; cases h
      | some n =>
        rw [hq] at h; cases h
        have hn' : KNodup ((liveP r).map (·.1)) := by
          unfold liveP at hn ⊢; rw [live] at hn
          split at hn
          · exact hn
          · exact (List.pairwise_cons.1 hn).2
        have ih := findE_del r k n (findE_lt hq) hn' hq k'
        rw [List.set_cons_succ, findE, findE]
        simp only [List.getElem_cons_succ]
        rw [ih]
        by_cases hx : e.gone = false ∧ keq k' e.p.1 = true
        · rw [if_pos hx, if_pos hx, if_neg (fun hq => hc ⟨hx.1, keq_trans (keq_symm hq) hx.2⟩)]
        · rw [if_neg hx, if_neg hx]; split <;> simp
theorem live_del_len : ∀ (E : List GE) (i : Nat) (hi : i < E.length) (_ : E[i].gone = false), (live (E.set i ⟨gapP, E[i].n, true⟩)).length + 1 = (live E).length
  | [], _, hi, _ => absurd hi (Nat.not_lt_zero _)
  | a :: r, 0, _, h => by
    have h : a.gone = false := h
    rw [List.set_cons_zero, live, live, if_pos rfl, if_neg (by rw [h]; simp), List.length_cons]
  | a :: r, i + 1, hi, h => by
    have ih := live_del_len r i (by simpa using hi) (by simpa using h)
    rw [List.set_cons_succ, live, live]
    simp only [List.getElem_cons_succ]
    split
    · exact ih
    · rw [List.length_cons, List.length_cons, ih]
/-- a key is taken out -/
theorem GOk.del {E : List GE} {M : List (Ky × Nat)} {last : Nat} (h : GOk E M last) {k : Ky} {i : Nat} {j : Nat} (hi : i < E.length) (hk : placeM M k = some (j, i)) : GOk (E.set i ⟨gapP, E[i].n, true⟩) (M.eraseIdx j) last := by
  have hf : findE E k = some i := by rw [← h.place k, hk]; rfl
  have hj : j < M.length := placeM_lt hk
  refine ⟨h.nodup.sublist ((List.eraseIdx_sublist M j).map _), fun k' => ?_, ?_, ?_, pair_set h.nums i hi _ _, fun e he => ?_, fun e he => ?_⟩
  · rw [placeM_erase h.nodup hk k', findE_del E k i hi h.keys hf k', h.place k']
  · have := live_del_len E i hi (findE_at hf).1
    rw [List.length_eraseIdx_of_lt hj, h.len]; omega
  · rw [liveP_del E k i hi hf]; exact h.keys.sublist ((del_sub _ k).map _)
  · obtain ⟨e', he', hn⟩ := mem_set_n he; rw [← hn]; exact h.last e' he'
  · obtain ⟨e', he', hn⟩ := mem_set_n he; rw [← hn]; exact h.pos e' he'

/-- a key that stands in a map gets another place -/
def setM : List (Ky × Nat) → Ky → Nat → List (Ky × Nat)
  | [], _, _ => []
  | a :: r, k, i => if keq k a.1 = true then (a.1, i) :: r else a :: setM r k i
/-- the places of entries, one behind the other -/
def relay : List (Ky × Nat) → Nat → List GE → List (Ky × Nat)
  | M, _, [] => M
  | M, i, e :: r => relay (setM M e.p.1 i) (i + 1) r
theorem setM_keys : ∀ (M : List (Ky × Nat)) (k : Ky) (i : Nat), (setM M k i).map (·.1) = M.map (·.1)
  | [], _, _ => rfl
  | a :: r, k, i => by
    rw [setM]; split
    · rfl
    · rw [List.map_cons, setM_keys r k i, List.map_cons]
theorem relay_keys : ∀ (E : List GE) (M : List (Ky × Nat)) (i : Nat), (relay M i E).map (·.1) = M.map (·.1)
  | [], _, _ => rfl
  | e :: r, M, i => by rw [relay, relay_keys r, setM_keys]
theorem relay_len (E : List GE) (M : List (Ky × Nat)) (i : Nat) : (relay M i E).length = M.length := by
  have := congrArg List.length (relay_keys E M i)
  simpa using this
theorem relay_snoc : ∀ (E : List GE) (M : List (Ky × Nat)) (i : Nat) (e : GE), relay M i (E ++ [e]) = setM (relay M i E) e.p.1 (i + E.length)
  | [], _, _, _ => rfl
  | a :: r, M, i, e => by
    rw [List.cons_append, relay, relay_snoc r, relay, List.length_cons]
    congr 1; omega
theorem placeM_setM : ∀ (M : List (Ky × Nat)) (k : Ky) (i : Nat) (k' : Ky), placeM (setM M k i) k' = (placeM M k').map fun x => if keq k' k = true then (x.1, i) else x
  | [], _, _, _ => rfl
  | a :: r, k, i, k' => by
    rw [setM, placeM]
    by_cases hk : keq k a.1 = true
    · rw [if_pos hk, placeM]
      by_cases hx : keq k' a.1 = true
      · rw [if_pos hx, if_pos hx]
        simp only [Option.map_some]
        rw [if_pos (keq_trans hx (keq_symm hk))]
      · rw [if_neg hx, if_neg hx]
        have hn : ¬ keq k' k = true := fun h => hx (keq_trans h hk)
        cases placeM r k' with
        | none => rfl
        | some x => simp only [Option.map_some]; rw [if_neg hn]
    · rw [if_neg hk, placeM, placeM_setM r k i k']
      by_cases hx : keq k' a.1 = true
      · rw [if_pos hx, if_pos hx]
        simp only [Option.map_some]
        rw [if_neg (fun h => hk (keq_trans (keq_symm h) hx))]
      · rw [if_neg hx, if_neg hx]
        cases placeM r k' with
        | none => rfl
        | some x => simp only [Option.map_some]; split <;> rfl
theorem placeM_relay : ∀ (E : List GE) (M : List (Ky × Nat)) (s : Nat) (_ : ∀ e ∈ E, e.gone = false) (_ : KNodup (E.map (·.p.1))) (k' : Ky),
    placeM (relay M s E) k' = (placeM M k').map fun x => match findE E k' with
      | some i => (x.1, s + i)
      | none => x
  | [], M, s, _, _, k' => by
    rw [relay]
    cases placeM M k' <;> rfl
  | e :: r, M, s, hg, hn, k' => by
    have h1 := (List.pairwise_cons.1 hn).1
    rw [relay, placeM_relay r _ _ (fun x hx => hg x (by simp [hx])) (List.pairwise_cons.1 hn).2 k', placeM_setM, findE]
    have he := hg e (by simp)
    by_cases hk : keq k' e.p.1 = true
    · have hf : findE r k' = none := by
        have : ∀ (F : List GE), (∀ x ∈ F, keq e.p.1 x.p.1 = false) → findE F k' = none := by
          intro F
          induction F with
          | nil => intro _; rfl
          | cons q t ih =>
            intro h
            rw [findE, if_neg, ih fun x hx => h x (by simp [hx])]
            · rfl
            · rintro ⟨_, hq⟩
              have := h q (by simp)
              rw [keq_trans (keq_symm hk) hq] at this; cases this
        exact this r fun x hx => h1 x.p.1 (List.mem_map_of_mem hx)
      rw [hf, if_pos ⟨he, hk⟩]
      cases placeM M k' with
      | none => rfl
      | some x => simp only [Option.map_some, if_pos hk, Nat.add_zero]
    · rw [if_neg fun h => hk h.2]
      cases placeM M k' with
      | none => rfl
      | some x =>
        simp only [Option.map_some, if_neg hk]
        cases findE r k' with
        | none => rfl
        | some i => simp only [Option.map_some]; rw [show s + 1 + i = s + (i + 1) by omega]
theorem findE_live (E : List GE) (k : Ky) : (findE (live E) k).isSome = (findE E k).isSome := by
  have h1 := getL_find (live E) k
  have h2 := getL_find E k
  unfold liveP at h1
  rw [live_live] at h1
  unfold liveP at h2
  rw [h1] at h2
  cases e1 : findE (live E) k with
  | none =>
    cases e2 : findE E k with
    | none => rfl
    | some i => rw [e1, e2] at h2; have := findE_lt e2; simp [this] at h2
  | some i =>
    cases e2 : findE E k with
    | none => rw [e1, e2] at h2; have := findE_lt e1; simp [this] at h2
    | some i => rfl
/-- the gaps are taken out -/
theorem GOk.compact {E : List GE} {M : List (Ky × Nat)} {last : Nat} (h : GOk E M last) : GOk (live E) (relay M 0 (live E)) last := by
  have hk : (live E).map (·.p.1) = (liveP E).map (·.1) := by unfold liveP; rw [List.map_map]; rfl
  refine ⟨by rw [relay_keys]; exact h.nodup, fun k => ?_, by rw [relay_len, live_live, h.len], ?_, h.nums.sublist (live_sub E), fun e he => h.last e ((live_sub E).subset he), fun e he => h.pos e ((live_sub E).subset he)⟩
  · rw [placeM_relay _ _ _ (fun e he => (live_mem.1 he).2) (by rw [hk]; exact h.keys) k]
    have h1 := findE_live E k
    have h2 := h.place k
    cases e1 : placeM M k with
    | none =>
      rw [e1] at h2
      rw [← h2] at h1
      cases e2 : findE (live E) k with
      | none => rfl
      | some i => rw [e2] at h1; cases h1
    | some x =>
      rw [e1] at h2
      rw [← h2] at h1
      cases e2 : findE (live E) k with
      | none => rw [e2] at h1; cases h1
      | some i => simp
  · unfold liveP; rw [live_live]; exact h.keys

/-- the number of the property ahead of the m-th -/
def numAt (F : List GE) : Nat → Nat
  | 0 => 0
  | m + 1 => ((F[m]?).map (·.n)).getD 0
/-- how many entries have a number up to N -/
def cutE (E : List GE) (N : Nat) : Nat := (E.takeWhile fun e => decide (e.n ≤ N)).length
theorem cutE_le (E : List GE) (N : Nat) : cutE E N ≤ E.length := (List.takeWhile_sublist _).length_le
theorem cutE_iff : ∀ {E : List GE} (_ : E.Pairwise fun a b => a.n < b.n) (N j : Nat) (hj : j < E.length), E[j].n ≤ N ↔ j < cutE E N
  | [], _, _, _, hj => absurd hj (Nat.not_lt_zero _)
  | e :: r, h, N, j, hj => by
    have h1 := (List.pairwise_cons.1 h).1
    unfold cutE
    by_cases hc : e.n ≤ N
    · rw [List.takeWhile_cons_of_pos (by simpa using hc), List.length_cons]
      cases j with
      | zero => simpa using hc
      | succ j =>
        have := cutE_iff (List.pairwise_cons.1 h).2 N j (by simpa using hj)
        simp only [List.getElem_cons_succ, this, cutE]; omega
    · rw [List.takeWhile_cons_of_neg (by simpa using hc), List.length_nil]
      cases j with
      | zero => simpa using hc
      | succ j =>
        have h2 := h1 _ (List.getElem_mem (l := r) (n := j) (by simpa using hj))
        simp only [List.getElem_cons_succ]; omega
theorem drop_cut : ∀ {E : List GE} (_ : E.Pairwise fun a b => a.n < b.n) (N : Nat), E.drop (cutE E N) = E.filter fun e => decide (N < e.n)
  | [], _, _ => by simp
  | e :: r, h, N => by
    have h1 := (List.pairwise_cons.1 h).1
    have ih := drop_cut (List.pairwise_cons.1 h).2 N
    unfold cutE at ih ⊢
    by_cases hc : e.n ≤ N
    · rw [List.takeWhile_cons_of_pos (by simpa using hc), List.length_cons, List.drop_succ_cons, ih, List.filter_cons_of_neg (by simpa using hc)]
    · rw [List.takeWhile_cons_of_neg (by simpa using hc), List.length_nil, List.drop_zero, List.filter_cons_of_pos (by simpa using hc)]
      rw [List.filter_eq_self.2]
      intro a ha
      have := h1 a ha
      simp; omega
theorem live_filter (q : GE → Bool) : ∀ (E : List GE), live (E.filter q) = (live E).filter q
  | [] => rfl
  | e :: r => by
    rw [List.filter_cons, live]
    by_cases hq : q e = true
    · rw [if_pos hq, live]
      split
      · exact live_filter q r
      · rw [List.filter_cons_of_pos hq, live_filter q r]
    · rw [if_neg hq]
      split
      · exact live_filter q r
      · rw [List.filter_cons_of_neg hq, live_filter q r]
theorem filter_num : ∀ {F : List GE} (_ : F.Pairwise fun a b => a.n < b.n) (_ : ∀ e ∈ F, 0 < e.n) (m : Nat) (_ : m ≤ F.length), F.filter (fun e => decide (numAt F m < e.n)) = F.drop m
  | F, _, hp, 0, _ => by
    rw [List.drop_zero, List.filter_eq_self.2]
    intro a ha
    exact decide_eq_true (hp a ha)
  | [], _, _, m + 1, hm => absurd hm (by simp)
  | e :: r, h, hp, m + 1, hm => by
    have h1 := (List.pairwise_cons.1 h).1
    have hr := (List.pairwise_cons.1 h).2
    have hm' : m ≤ r.length := by simpa using hm
    rw [List.drop_succ_cons]
    cases m with
    | zero =>
      have e0 : numAt (e :: r) 1 = e.n := rfl
      rw [e0, List.filter_cons_of_neg (by simp), List.drop_zero, List.filter_eq_self.2]
      intro a ha
      simpa using h1 a ha
    | succ m =>
      have e1 : numAt (e :: r) (m + 1 + 1) = numAt r (m + 1) := by simp [numAt]
      have hlt : m < r.length := hm'
      have e2 : numAt r (m + 1) = r[m].n := by simp [numAt, hlt]
      have h2 := h1 r[m] (List.getElem_mem hlt)
      rw [e1, List.filter_cons_of_neg (by rw [e2]; simp; omega)]
      exact filter_num hr (fun x hx => hp x (by simp [hx])) (m + 1) hm'
/-- what stands behind the m-th property -/
theorem GOk.behind {E : List GE} {M : List (Ky × Nat)} {last : Nat} (h : GOk E M last) {m : Nat} (hm : m ≤ (live E).length) : live (E.drop (cutE E (numAt (live E) m))) = (live E).drop m := by
  rw [drop_cut h.nums, live_filter, filter_num (h.nums.sublist (live_sub E)) (fun e he => h.pos e ((live_sub E).subset he)) m hm]
theorem numAt_le {E : List GE} {M : List (Ky × Nat)} {last : Nat} (h : GOk E M last) (m : Nat) : numAt (live E) m ≤ last := by
  cases m with
  | zero => exact Nat.zero_le _
  | succ m =>
    rw [numAt]
    cases e : (live E)[m]? with
    | none => exact Nat.zero_le _
    | some x => exact h.last x ((live_sub E).subset (List.mem_of_getElem? e))

end Go.Proofs.YtoalboilghgalaaGreatDoor

/- The map from keys to places. -/
namespace Go.Proofs.YtoalboilghgalaaGreatDoor
open Go.RowKit
open Go.Proofs.Dc (V Ds Ky)
attribute [local go_sem] run_store_float

/-- the entries of the map -/
def MapEs (es : Array MapEntry) (M : List (Ky × Nat)) : Prop := es.toList.map (fun e => (e.key, e.val)) = M.map fun a => (.agg (kArr a.1), .int .i64 (a.2 : Nat))

theorem run_equal_k (a b : Ky) (w : World) : (Op.equal 40 (.agg (kArr a)) (.agg (kArr b))).run Tryz.prog w = .ok (keq a b) w := by
  have h := eql_k a b w
  rw [run_eql_struct] at h
  unfold Op.equal
  change (Sem.run Tryz.prog (Op.equalIn 10000 40 (.agg (kArr a)) (.agg (kArr b))) w).andThen _ = _ at h
  cases hq : Sem.run Tryz.prog (Op.equalIn 10000 40 (.agg (kArr a)) (.agg (kArr b))) w with
  | ok x w' => rw [hq] at h; simp [Result.andThen] at h; show Sem.run Tryz.prog (Op.equalIn 10000 40 (.agg (kArr a)) (.agg (kArr b))) w = _; rw [hq, h.1, h.2]
  | halt x w' => rw [hq] at h; simp [Result.andThen] at h

theorem run_findAsking (k : Ky) (w : World) : ∀ (es : List MapEntry) (M : List (Ky × Nat)) (i : Nat), es.map (fun e => (e.key, e.val)) = (M.map fun a => (Value.agg (kArr a.1), Value.int .i64 (a.2 : Nat))) →
    (Instr.findAsking 40 (.agg (kArr k)) es i).run Tryz.prog w = .ok ((placeM M k).map fun x => (x.1 + i, .int .i64 (x.2 : Nat))) w
  | [], M, i, h => by
    have : M = [] := by
      cases M with
      | nil => rfl
      | cons a r => cases h
    subst this
    simp [Instr.findAsking, placeM]
  | e :: es, M, i, h => by
    cases M with
    | nil => cases h
    | cons a r =>
      simp only [List.map_cons, List.cons.injEq, Prod.mk.injEq] at h
      obtain ⟨⟨h1, h2⟩, h3⟩ := h
      have ih := run_findAsking k w es r (i + 1) h3
      simp only [Instr.findAsking, Sem.run_bind, h1, run_equal_k, Result.andThen_ok, Sem.run_ite]
      cases hq : keq k a.1
      · simp only [Bool.false_eq_true, if_false, ih, placeM, hq]
        cases placeM r k with
        | none => rfl
        | some n => simp; omega
      · simp [placeM, hq, h2]

theorem run_findKey (k : Ky) (w : World) (es : Array MapEntry) (M : List (Ky × Nat)) (h : MapEs es M) :
    (Instr.findKey 40 (.agg (kArr k)) es.toList).run Tryz.prog w = .ok ((placeM M k).map fun x => (x.1, .int .i64 (x.2 : Nat))) w := by
  have hf := run_findAsking k w es.toList M 0 h
  unfold Instr.findKey
  rw [Sem.run_bind, run_underlying Tryz.underlying40]
  simp only [Result.andThen_ok]
  unfold MapEs at h
  cases hl : es.toList with
  | nil =>
    have : M = [] := by
      rw [hl] at h
      cases M with
      | nil => rfl
      | cons a r => cases h
    subst this
    simp [Instr.findNow, placeM]
  | cons e r =>
    rw [hl] at hf
    simp only [Instr.findNow, Instr.sameNow]
    simpa using hf

theorem ck9 (b : Bool) (n : Nat) (s : ByteArray) (w : World) : (Instr.checkKey b (n + 1) 9 (.string s)).run Tryz.prog w = .ok () w := by
  simp [Instr.checkKey, run_underlying Tryz.underlying9]
theorem ck3 (b : Bool) (n : Nat) (x : Int) (w : World) : (Instr.checkKey b (n + 1) 3 (.int .i64 x)).run Tryz.prog w = .ok () w := by
  simp [Instr.checkKey, run_underlying Tryz.underlying3]
theorem run_checkKey (b : Bool) (k : Ky) (w : World) : (Instr.checkKey b 10000 40 (.agg (kArr k))).run Tryz.prog w = .ok () w := by
  have u3 := Tryz.underlying3
  have a3 := Tryz.isAgg3
  have z3 := Tryz.sizeOf3
  have u9 := Tryz.underlying9
  have a9 := Tryz.isAgg9
  have z9 := Tryz.sizeOf9
  have u40 := Tryz.underlying40
  rw [show (10000 : Nat) = 9999 + 1 from rfl]
  unfold Instr.checkKey
  simp only [kArr]
  go_simp
  simp [ck9 b 9998, ck3 b 9998]

/-- block b is the map from the keys of M to their places -/
def MapIs (W : World) (b : Nat) (M : List (Ky × Nat)) : Prop := ∃ es clock, W.heap[b]? = some (.map es clock) ∧ MapEs es M

theorem run_lookup_k {W : World} {b : Nat} {M : List (Ky × Nat)} (h : MapIs W b M) (k : Ky) : (Instr.lookup 227 (.map (some b)) (.agg (kArr k)) true).run Tryz.prog W =
    .ok (.tuple #[.int .i64 ((((placeM M k).map (·.2)).getD 0 : Nat) : Int), .bool ((placeM M k).map (·.2)).isSome]) W := by
  obtain ⟨es, clock, hb, he⟩ := h
  unfold Instr.lookup
  rw [Sem.run_bind, run_underlying Tryz.underlying227]
  simp only [Result.andThen_ok]
  have hg : (getObj b).run Tryz.prog W = .ok (.map es clock) W := by simp [getObj, Sem.run, hb]
  have hz : (zeroValue 3).run Tryz.prog W = .ok (.int .i64 0) W := Tryz.zeroValue3 W
  simp only [Sem.run_bind, hg, Result.andThen_ok, run_checkKey, run_findKey k W es M he, Sem.run_pure]
  cases placeM M k with
  | none => simp [hz]
  | some n => simp

/-- a new key goes in behind the others -/
theorem run_update_k {W : World} {b : Nat} {M : List (Ky × Nat)} (h : MapIs W b M) (k : Ky) (hk : placeM M k = none) (n : Nat) : ∃ W', (Instr.mapUpdate 227 (.map (some b)) (.agg (kArr k)) (.int .i64 (n : Nat))).run Tryz.prog W = .ok () W' ∧
    MapIs W' b (M ++ [(k, n)]) ∧ Only [b] W W' := by
  obtain ⟨es, clock, hb, he⟩ := h
  have hlt : b < W.heap.size := (Array.getElem?_eq_some_iff.1 hb).1
  have hg : (getObj b).run Tryz.prog W = .ok (.map es clock) W := by simp [getObj, Sem.run, hb]
  refine ⟨{ W with heap := W.heap.setIfInBounds b (.map (es.push { key := .agg (kArr k), val := .int .i64 (n : Nat), born := clock }) (clock + 1)) }, ?_, ⟨es.push { key := .agg (kArr k), val := .int .i64 (n : Nat), born := clock }, clock + 1, by simp [hlt], ?_⟩, rfl, rfl, rfl, by simp, fun i _ hn => by simp at hn; simp [Array.getElem?_setIfInBounds_ne (Ne.symm hn)]⟩
  · unfold Instr.mapUpdate
    rw [Sem.run_bind, run_underlying Tryz.underlying227]
    simp only [Result.andThen_ok, Sem.run_bind, hg, run_checkKey, run_findKey k W es M he, hk, Option.map_none]
    simp [setObj, Sem.run, hb]
  · unfold MapEs at he ⊢
    simp [he]
/-- a key that stands gets another place -/
theorem setM_at : ∀ {M : List (Ky × Nat)} {k : Ky} {x : Nat × Nat} (h : placeM M k = some x) (i : Nat), setM M k i = M.set x.1 ((M[x.1]'(placeM_lt h)).1, i)
  | [], _, _, h, _ => by cases h
  | a :: r, k, x, h, i => by
    have h0 := h
    rw [placeM] at h
    rw [setM]
    split at h
    · rename_i hc
      cases h; rw [if_pos hc]; rfl
    · rename_i hc
      cases hq : placeM r k with
      | none => rw [hq] at h; cases h
      | some y => rw [hq] at h; cases h; rw [if_neg hc, setM_at hq i]; rfl
theorem run_update_old {W : World} {b : Nat} {M : List (Ky × Nat)} (h : MapIs W b M) (k : Ky) (x : Nat × Nat) (hk : placeM M k = some x) (n : Nat) : ∃ W', (Instr.mapUpdate 227 (.map (some b)) (.agg (kArr k)) (.int .i64 (n : Nat))).run Tryz.prog W = .ok () W' ∧
    MapIs W' b (setM M k n) ∧ Only [b] W W' := by
  obtain ⟨es, clock, hb, he⟩ := h
  have hlt : b < W.heap.size := (Array.getElem?_eq_some_iff.1 hb).1
  have hg : (getObj b).run Tryz.prog W = .ok (.map es clock) W := by simp [getObj, Sem.run, hb]
  have hx := placeM_lt hk
  have hkey : kArr (M[x.1]'hx).1 = kArr k := by rw [keq_eq (placeM_at hk).2]
  have hel : es.size = M.length := by have := congrArg List.length he; simpa using this
  have hxs : x.1 < es.size := by omega
  have hex : es[x.1].key = .agg (kArr k) := by
    have h1 : (es.toList.map (fun e => (e.key, e.val)))[x.1]? = (M.map fun a => (Value.agg (kArr a.1), Value.int .i64 (a.2 : Nat)))[x.1]? := congrArg (fun l => l[x.1]?) he
    simp only [List.getElem?_map, Array.getElem?_toList, Array.getElem?_eq_getElem hxs, List.getElem?_eq_getElem hx, Option.map_some, Option.some.injEq, Prod.mk.injEq] at h1
    rw [h1.1, hkey]
  have hst : (Instr.keyThatStays (.agg (kArr k)) (.agg (kArr k))).run Tryz.prog W = .ok (.agg (kArr k)) W := by
    unfold Instr.keyThatStays
    have hs : (k.str == k.str) = true := by cases k.str with | mk d => exact beq_self_eq_true d
    rw [if_pos (by simp [Instr.sameBits, kArr, hs])]
    rfl
  refine ⟨{ W with heap := W.heap.setIfInBounds b (.map (es.modify x.1 fun e => { e with key := .agg (kArr k), val := .int .i64 (n : Nat) }) clock) }, ?_, ⟨es.modify x.1 fun e => { e with key := .agg (kArr k), val := .int .i64 (n : Nat) }, clock, by simp [hlt], ?_⟩, rfl, rfl, rfl, by simp, fun i _ hn => by simp at hn; simp [Array.getElem?_setIfInBounds_ne (Ne.symm hn)]⟩
  · unfold Instr.mapUpdate
    rw [Sem.run_bind, run_underlying Tryz.underlying227]
    simp only [Result.andThen_ok, Sem.run_bind, hg, run_checkKey, run_findKey k W es M he, hk, Option.map_some]
    simp only [Array.getElem?_eq_getElem hxs, Option.map_some, Option.getD_some, hex, hst, Result.andThen_ok]
    simp [setObj, Sem.run, hb]
  · unfold MapEs at he ⊢
    rw [setM_at hk]
    apply List.ext_getElem?
    intro j
    have hj := congrArg (fun l => l[j]?) he
    simp only [List.getElem?_map, Array.getElem?_toList] at hj ⊢
    rw [Array.getElem?_modify, List.getElem?_set]
    by_cases hij : x.1 = j
    · subst hij
      rw [if_pos rfl, if_pos rfl, Array.getElem?_eq_getElem hxs, if_pos hx]
      simp only [Option.map_some, hkey]
    · rw [if_neg hij, if_neg hij]
      exact hj
/-- a key is taken out -/
theorem run_delete_k {W : World} {b : Nat} {M : List (Ky × Nat)} (ty : TypeId) (h : MapIs W b M) (k : Ky) (x : Nat × Nat) (hk : placeM M k = some x) : ∃ W', (Builtin.delete_ #[227, 40] ty #[.map (some b), .agg (kArr k)]).run Tryz.prog W = .ok (.tuple #[]) W' ∧
    MapIs W' b (M.eraseIdx x.1) ∧ Only [b] W W' := by
  obtain ⟨es, clock, hb, he⟩ := h
  have hlt : b < W.heap.size := (Array.getElem?_eq_some_iff.1 hb).1
  have hg : (getObj b).run Tryz.prog W = .ok (.map es clock) W := by simp [getObj, Sem.run, hb]
  have hx := placeM_lt hk
  have hel : es.size = M.length := by have := congrArg List.length he; simpa using this
  have hxs : x.1 < es.size := by omega
  have hsub : (es.eraseIdxIfInBounds x.1).toList = es.toList.eraseIdx x.1 := by
    unfold Array.eraseIdxIfInBounds
    rw [dif_pos hxs]
    simp
  refine ⟨{ W with heap := W.heap.setIfInBounds b (.map (es.eraseIdxIfInBounds x.1) clock) }, ?_, ⟨es.eraseIdxIfInBounds x.1, clock, by simp [hlt], ?_⟩, rfl, rfl, rfl, by simp, fun i _ hn => by simp at hn; simp [Array.getElem?_setIfInBounds_ne (Ne.symm hn)]⟩
  · unfold Builtin.delete_
    simp only [List.getElem?_toArray, List.getElem?_cons_zero, List.getElem?_cons_succ]
    simp only [Sem.run_bind, run_underlying Tryz.underlying227, Result.andThen_ok, hg, run_checkKey, run_findKey k W es M he, hk, Option.map_some]
    simp [setObj, Sem.run, hb]
  · unfold MapEs at he ⊢
    have e1 : ∀ {α β : Type} (f : α → β) (l : List α) (i : Nat), (l.eraseIdx i).map f = (l.map f).eraseIdx i := by
      intro α β f l
      induction l with
      | nil => intro i; rfl
      | cons a r ih =>
        intro i
        cases i with
        | zero => rfl
        | succ i => simp only [List.eraseIdx_cons_succ, List.map_cons, ih]
    rw [hsub, e1, he, e1]

end Go.Proofs.YtoalboilghgalaaGreatDoor
