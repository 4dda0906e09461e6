/- Lemmas for this claim, in parts: Sort. -/
import Derived.Test.YtoalboilghgalaaGreatDoorC05
set_option maxRecDepth 100000
set_option maxHeartbeats 4000000
set_option linter.unusedVariables false
set_option linter.unusedSimpArgs false
/- The stable sort of Go's library on lists: plain Lean, no program. -/
namespace Go.Proofs.Srt

variable {α : Type}

/-- two elements change places -/
def swp (l : List α) (i j : Nat) : List α :=
  match l[i]?, l[j]? with
  | some a, some b => (l.set i b).set j a
  | _, _ => l
/-- is element i less than element j? -/
def lss (lt : α → α → Bool) (l : List α) (i j : Nat) : Bool :=
  match l[i]?, l[j]? with
  | some a, some b => lt a b
  | _, _ => false

theorem swp_length (l : List α) (i j : Nat) : (swp l i j).length = l.length := by
  unfold swp; split <;> simp

theorem swp_get (l : List α) (i j k : Nat) (hi : i < l.length) (hj : j < l.length) : (swp l i j)[k]? = if k = j then l[i]? else if k = i then l[j]? else l[k]? := by
  have h1 : l[i]? = some l[i] := by simp [hi]
  have h2 : l[j]? = some l[j] := by simp [hj]
  unfold swp
  rw [h1, h2]
  simp only [List.getElem?_set, List.length_set]
  by_cases e1 : k = j
  · subst e1; simp [hj]
  · by_cases e2 : k = i
    · subst e2; simp [hi, e1, Ne.symm e1]
    · simp [Ne.symm e1, Ne.symm e2, e1, e2]

theorem swp_perm (l : List α) (i j : Nat) : (swp l i j).Perm l := by
  unfold swp
  split
  · rename_i a b h1 h2
    obtain ⟨hi, rfl⟩ := List.getElem?_eq_some_iff.1 h1
    obtain ⟨hj, rfl⟩ := List.getElem?_eq_some_iff.1 h2
    have h := Array.swap_perm (xs := l.toArray) (i := i) (j := j) (by simpa using hi) (by simpa using hj)
    have h' := Array.perm_iff_toList_perm.1 h
    simpa [Array.swap] using h'
  · exact .refl _

section
variable (lt : α → α → Bool)

/-- one element goes down -/
def insJ (a : Nat) : Nat → List α → List α
  | 0, l => l
  | j + 1, l => if a < j + 1 ∧ lss lt l (j + 1) j = true then insJ a j (swp l (j + 1) j) else l
/-- from element i on, n of them -/
def insO (a : Nat) : Nat → Nat → List α → List α
  | 0, _, l => l
  | n + 1, i, l => insO a n (i + 1) (insJ lt a i l)
def insertion (a b : Nat) (l : List α) : List α := insO lt a (b - (a + 1)) (a + 1) l

/-- n elements from a on and from b on change places -/
def swR : Nat → Nat → Nat → List α → List α
  | 0, _, _, l => l
  | n + 1, a, b, l => swR n (a + 1) (b + 1) (swp l a b)
def rot (m : Nat) : Nat → Nat → Nat → List α → List α
  | 0, i, _, l => swR i (m - i) m l
  | f + 1, i, j, l => if i = j then swR i (m - i) m l else if j < i then rot m f (i - j) j (swR j (m - i) m l) else rot m f i (j - i) (swR i (m - i) (m + j - i) l)
def rotate (a m b : Nat) (l : List α) : List α := rot m (b - a) (m - a) (b - m) l

/-- a search by halves -/
def bs (p : Nat → Bool) : Nat → Nat → Nat → Nat
  | 0, i, _ => i
  | f + 1, i, j => if i < j then (if p ((i + j) / 2) then bs p f ((i + j) / 2 + 1) j else bs p f i ((i + j) / 2)) else i

/-- k steps up from a -/
def ups : Nat → Nat → List α → List α
  | 0, _, l => l
  | k + 1, a, l => ups k (a + 1) (swp l a (a + 1))
/-- k steps down from m -/
def downs : Nat → Nat → List α → List α
  | 0, _, l => l
  | k + 1, m, l => downs k (m - 1) (swp l m (m - 1))

def symStart (a m b : Nat) (l : List α) : Nat :=
  bs (fun c => !lss lt l ((a + b) / 2 + m - 1 - c) c) (b - a) (if (a + b) / 2 < m then (a + b) / 2 + m - b else a) (if (a + b) / 2 < m then (a + b) / 2 else m)

def symMerge : Nat → Nat → Nat → Nat → List α → List α
  | 0, _, _, _, l => l
  | f + 1, a, m, b, l =>
    if m - a = 1 then ups (bs (fun h => lss lt l h a) (b - m) m b - 1 - a) a l
    else if b - m = 1 then downs (m - bs (fun h => !lss lt l m h) (m - a) a m) m l
    else
      let s := symStart lt a m b l
      let e := (a + b) / 2 + m - s
      let l1 := if s < m ∧ m < e then rotate s m e l else l
      let l2 := if a < s ∧ s < (a + b) / 2 then symMerge f a s ((a + b) / 2) l1 else l1
      if (a + b) / 2 < e ∧ e < b then symMerge f ((a + b) / 2) e b l2 else l2

def blocks (n : Nat) : Nat → Nat → List α → List α
  | 0, a, l => insertion lt a n l
  | f + 1, a, l => if a + 20 ≤ n then blocks n f (a + 20) (insertion lt a (a + 20) l) else insertion lt a n l
def mPass (n z : Nat) : Nat → Nat → List α → List α
  | 0, _, l => l
  | f + 1, a, l => if a + 2 * z ≤ n then mPass n z f (a + 2 * z) (symMerge lt n a (a + z) (a + 2 * z) l) else if a + z < n then symMerge lt n a (a + z) n l else l
def mAll (n : Nat) : Nat → Nat → List α → List α
  | 0, _, l => l
  | f + 1, z, l => if z < n then mAll n f (2 * z) (mPass lt n z (n + 1) 0 l) else l
def stable (l : List α) : List α := mAll lt l.length (l.length + 1) 20 (blocks lt l.length (l.length + 1) 0 l)

variable {lt}
theorem insJ_perm (a : Nat) : ∀ (j : Nat) (l : List α), (insJ lt a j l).Perm l
  | 0, l => .refl l
  | j + 1, l => by
    unfold insJ; split
    · exact (insJ_perm a j _).trans (swp_perm _ _ _)
    · exact .refl l
theorem insO_perm (a : Nat) : ∀ (n i : Nat) (l : List α), (insO lt a n i l).Perm l
  | 0, _, l => .refl l
  | n + 1, i, l => (insO_perm a n (i + 1) _).trans (insJ_perm a i l)
theorem insertion_perm (a b : Nat) (l : List α) : (insertion lt a b l).Perm l := insO_perm _ _ _ _
theorem swR_perm : ∀ (n a b : Nat) (l : List α), (swR n a b l).Perm l
  | 0, _, _, l => .refl l
  | n + 1, a, b, _ => (swR_perm n (a + 1) (b + 1) _).trans (swp_perm _ _ _)
theorem rot_perm (m : Nat) : ∀ (f i j : Nat) (l : List α), (rot m f i j l).Perm l
  | 0, i, _, l => swR_perm _ _ _ l
  | f + 1, i, j, l => by
    unfold rot; split
    · exact swR_perm _ _ _ l
    · split
      · exact (rot_perm m f _ _ _).trans (swR_perm _ _ _ _)
      · exact (rot_perm m f _ _ _).trans (swR_perm _ _ _ _)
theorem rotate_perm (a m b : Nat) (l : List α) : (rotate a m b l).Perm l := rot_perm _ _ _ _ _
theorem ups_perm : ∀ (k a : Nat) (l : List α), (ups k a l).Perm l
  | 0, _, l => .refl l
  | k + 1, a, _ => (ups_perm k (a + 1) _).trans (swp_perm _ _ _)
theorem downs_perm : ∀ (k a : Nat) (l : List α), (downs k a l).Perm l
  | 0, _, l => .refl l
  | k + 1, a, _ => (downs_perm k (a - 1) _).trans (swp_perm _ _ _)
theorem symMerge_perm : ∀ (f a m b : Nat) (l : List α), (symMerge lt f a m b l).Perm l
  | 0, _, _, _, l => .refl l
  | f + 1, a, m, b, l => by
    unfold symMerge
    split
    · exact ups_perm _ _ _
    · split
      · exact downs_perm _ _ _
      · dsimp only
        generalize symStart lt a m b l = s
        have h1 : (if s < m ∧ m < (a + b) / 2 + m - s then rotate s m ((a + b) / 2 + m - s) l else l).Perm l := by
          split
          · exact rotate_perm _ _ _ _
          · exact .refl _
        generalize (if s < m ∧ m < (a + b) / 2 + m - s then rotate s m ((a + b) / 2 + m - s) l else l) = l1 at h1 ⊢
        have h2 : (if a < s ∧ s < (a + b) / 2 then symMerge lt f a s ((a + b) / 2) l1 else l1).Perm l := by
          split
          · exact (symMerge_perm f _ _ _ _).trans h1
          · exact h1
        generalize (if a < s ∧ s < (a + b) / 2 then symMerge lt f a s ((a + b) / 2) l1 else l1) = l2 at h2 ⊢
        split
        · exact (symMerge_perm f _ _ _ _).trans h2
        · exact h2
theorem blocks_perm (n : Nat) : ∀ (f a : Nat) (l : List α), (blocks lt n f a l).Perm l
  | 0, a, l => insertion_perm _ _ _
  | f + 1, a, l => by
    unfold blocks; split
    · exact (blocks_perm n f _ _).trans (insertion_perm _ _ _)
    · exact insertion_perm _ _ _
theorem mPass_perm (n z : Nat) : ∀ (f a : Nat) (l : List α), (mPass lt n z f a l).Perm l
  | 0, _, l => .refl l
  | f + 1, a, l => by
    unfold mPass; split
    · exact (mPass_perm n z f _ _).trans (symMerge_perm _ _ _ _ _)
    · split
      · exact symMerge_perm _ _ _ _ _
      · exact .refl l
theorem mAll_perm (n : Nat) : ∀ (f z : Nat) (l : List α), (mAll lt n f z l).Perm l
  | 0, _, l => .refl l
  | f + 1, z, l => by
    unfold mAll; split
    · exact (mAll_perm n f _ _).trans (mPass_perm _ _ _ _ _)
    · exact .refl l
theorem stable_perm (l : List α) : (stable lt l).Perm l := (mAll_perm _ _ _ _).trans (blocks_perm _ _ _ _)
end

theorem bs_le (p : Nat → Bool) : ∀ (f i j : Nat), i ≤ j → i ≤ bs p f i j ∧ bs p f i j ≤ j
  | 0, i, j, h => ⟨Nat.le_refl i, h⟩
  | f + 1, i, j, h => by
    unfold bs
    split
    · split
      · have := bs_le p f ((i + j) / 2 + 1) j (by omega); omega
      · have := bs_le p f i ((i + j) / 2) (by omega); omega
    · omega

end Go.Proofs.Srt
