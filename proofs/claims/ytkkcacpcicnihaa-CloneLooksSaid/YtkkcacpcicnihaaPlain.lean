import GoSem.Core.Value
namespace Go.Proofs.Cl
open Go

structure V where
  kind : Int
  bool : Bool
  num : Nat
  str : ByteArray
  id : Int

structure Ds where
  val : V
  get : V
  set : V
  w : Int
  e : Int
  c : Int

structure Pr where
  kstr : ByteArray
  ksym : Int
  d : Ds

structure Sh where
  cls : Int
  proto : V
  ext : Bool
  props : List Pr

/-- an object's number among so many; 0: none -/
def among (n : Nat) (v : V) : Nat := if v.kind = 7 ∧ 1 ≤ v.id ∧ v.id ≤ n then v.id.toNat else 0

theorem among_le (n : Nat) (v : V) : among n v ≤ n := by
  unfold among; split <;> omega

def leadsOf (s : Sh) : List V := s.proto :: s.props.flatMap fun p => [p.d.val, p.d.get, p.d.set]

def joinV (n : Nat) (out : List Nat) (v : V) : List Nat :=
  if among n v = 0 then out else if among n v ∈ out then out else out ++ [among n v]

def joinAll (n : Nat) (out : List Nat) (vs : List V) : List Nat := vs.foldl (joinV n) out

def default : Sh := ⟨0, ⟨0, false, 0, ByteArray.empty, 0⟩, false, []⟩

def shAt (l : List Sh) (o : Nat) : Sh := l.getD (o - 1) default

def after (l : List Sh) (roots : List V) : Nat → List Nat
  | 0 => joinAll l.length [] roots
  | i + 1 => if h : i < (after l roots i).length then joinAll l.length (after l roots i) (leadsOf (shAt l ((after l roots i)[i]))) else after l roots i

def reach (l : List Sh) (roots : List V) : List Nat := after l roots l.length

/-- what is kept of a list of objects: no two the same, each from 1 to n -/
def Good (n : Nat) (out : List Nat) : Prop := out.Nodup ∧ ∀ o ∈ out, 1 ≤ o ∧ o ≤ n

theorem Good.joinV {n : Nat} {out : List Nat} (h : Good n out) (v : V) : Good n (joinV n out v) := by
  unfold Cl.joinV
  split
  · exact h
  · split
    · exact h
    · rename_i h0 hm
      refine ⟨List.nodup_append.2 ⟨h.1, by simp, ?_⟩, ?_⟩
      · intro a ha b hb
        simp only [List.mem_singleton] at hb
        subst hb
        rintro rfl
        exact hm ha
      · intro o ho
        rcases List.mem_append.1 ho with ho | ho
        · exact h.2 o ho
        · simp only [List.mem_singleton] at ho
          subst ho
          exact ⟨by omega, among_le n v⟩

theorem Good.joinAll {n : Nat} {out : List Nat} (h : Good n out) (vs : List V) : Good n (joinAll n out vs) := by
  unfold Cl.joinAll
  induction vs generalizing out with
  | nil => exact h
  | cons v vs ih => exact ih (h.joinV v)

theorem Good.nil (n : Nat) : Good n [] := ⟨List.nodup_nil, by simp⟩

theorem after_good (l : List Sh) (roots : List V) (i : Nat) : Good l.length (after l roots i) := by
  induction i with
  | zero => exact (Good.nil _).joinAll _
  | succ i ih =>
    unfold after
    split
    · exact ih.joinAll _
    · exact ih

theorem nodup_length_le : ∀ {a b : List Nat}, a.Nodup → (∀ x ∈ a, x ∈ b) → a.length ≤ b.length
  | [], _, _, _ => Nat.zero_le _
  | x :: a, b, hn, hs => by
    have hx : x ∈ b := hs x (by simp)
    have hn' := List.nodup_cons.1 hn
    have := nodup_length_le (a := a) (b := b.erase x) hn'.2 fun y hy => (List.mem_erase_of_ne (fun e : y = x => hn'.1 (by rw [← e]; exact hy))).2 (hs y (by simp [hy]))
    rw [List.length_erase_of_mem hx] at this
    have : 0 < b.length := List.length_pos_of_mem hx
    simp only [List.length_cons]; omega

theorem Good.length_le {n : Nat} {out : List Nat} (h : Good n out) : out.length ≤ n := by
  have h1 : out.length ≤ (List.range' 1 n).length := nodup_length_le h.1 fun o ho => by
    have := h.2 o ho
    simp [List.mem_range'_1]; omega
  simpa using h1

theorem joinV_prefix (n : Nat) (out : List Nat) (v : V) : out <+: joinV n out v := by
  unfold joinV; split
  · exact List.prefix_refl _
  · split
    · exact List.prefix_refl _
    · exact List.prefix_append _ _

theorem joinAll_prefix (n : Nat) (out : List Nat) (vs : List V) : out <+: joinAll n out vs := by
  unfold joinAll
  induction vs generalizing out with
  | nil => exact List.prefix_refl _
  | cons v vs ih => exact (joinV_prefix n out v).trans (ih _)

theorem after_prefix_succ (l : List Sh) (roots : List V) (i : Nat) : after l roots i <+: after l roots (i + 1) := by
  rw [after]
  split
  · exact joinAll_prefix _ _ _
  · exact List.prefix_refl _

theorem after_prefix (l : List Sh) (roots : List V) (i k : Nat) : after l roots i <+: after l roots (i + k) := by
  induction k with
  | zero => exact List.prefix_refl _
  | succ k ih => exact ih.trans (after_prefix_succ _ _ _)

theorem after_stop (l : List Sh) (roots : List V) (i : Nat) (h : (after l roots i).length ≤ i) : ∀ k, after l roots (i + k) = after l roots i := by
  intro k
  induction k with
  | zero => rfl
  | succ k ih =>
    show after l roots ((i + k) + 1) = _
    rw [after]
    rw [dif_neg (by rw [ih]; omega), ih]

theorem after_le (l : List Sh) (roots : List V) (i : Nat) : (after l roots i).length ≤ l.length := (after_good l roots i).length_le

/-- where the loop leaves off, the list is the whole one -/
theorem after_done (l : List Sh) (roots : List V) (i : Nat) (h : (after l roots i).length ≤ i) (hi : i ≤ l.length) : after l roots i = reach l roots := by
  have := after_stop l roots i h (l.length - i)
  rw [show i + (l.length - i) = l.length from by omega] at this
  exact this.symm

theorem reach_good (l : List Sh) (roots : List V) : Good l.length (reach l roots) := after_good _ _ _

theorem mem_joinV (n : Nat) (out : List Nat) (v : V) : among n v = 0 ∨ among n v ∈ joinV n out v := by
  unfold joinV; split
  · left; assumption
  · right; split
    · assumption
    · simp

theorem mem_joinAll (n : Nat) (out : List Nat) (vs : List V) : ∀ v ∈ vs, among n v = 0 ∨ among n v ∈ joinAll n out vs := by
  unfold joinAll
  induction vs generalizing out with
  | nil => intro v hv; cases hv
  | cons u vs ih =>
    intro v hv
    rcases List.mem_cons.1 hv with rfl | hv
    · rcases mem_joinV n out v with h | h
      · exact .inl h
      · exact .inr ((joinAll_prefix n (joinV n out v) vs).subset h)
    · exact ih _ v hv

theorem reach_root (l : List Sh) (roots : List V) : ∀ v ∈ roots, among l.length v = 0 ∨ among l.length v ∈ reach l roots := by
  intro v hv
  rcases mem_joinAll l.length [] roots v hv with h | h
  · exact .inl h
  · refine .inr ((after_prefix l roots 0 l.length).subset ?_ |> fun h => by simpa [reach] using h)
    exact h

theorem reach_leads (l : List Sh) (roots : List V) (i : Nat) (hi : i < (reach l roots).length) :
    ∀ v ∈ leadsOf (shAt l (reach l roots)[i]), among l.length v = 0 ∨ among l.length v ∈ reach l roots := by
  have hle : (reach l roots).length ≤ l.length := after_le _ _ _
  have key : i < (after l roots i).length := by
    rcases Nat.lt_or_ge i (after l roots i).length with h | h
    · exact h
    · have := after_done l roots i h (by omega)
      rw [← this] at hi
      omega
  have hp : after l roots i <+: reach l roots := by
    have := after_prefix l roots i (l.length - i)
    rwa [show i + (l.length - i) = l.length from by omega] at this
  have hp1 : after l roots (i + 1) <+: reach l roots := by
    have := after_prefix l roots (i + 1) (l.length - (i + 1))
    rwa [show i + 1 + (l.length - (i + 1)) = l.length from by omega] at this
  have e : (reach l roots)[i] = (after l roots i)[i] := (hp.getElem key).symm
  intro v hv
  rw [e] at hv
  have hs : after l roots (i + 1) = joinAll l.length (after l roots i) (leadsOf (shAt l ((after l roots i)[i]))) := by
    rw [after, dif_pos key]
  rcases mem_joinAll l.length (after l roots i) _ v hv with h | h
  · exact .inl h
  · exact .inr (hp1.subset (by rw [hs]; exact h))

def isObj (n : Nat) (v : V) : Bool := decide (v.kind = 7 ∧ 1 ≤ v.id ∧ v.id ≤ n)

/-- a number's first place in a list; -1: none -/
def placeOf (l : List Nat) (o : Int) : Int := match l.findIdx? (fun (x : Nat) => (x : Int) == o) with | some i => (i : Int) | none => -1

theorem placeOf_found {l : List Nat} {o : Int} {k : Nat} (hk : k < l.length) (hno : ∀ j, j < k → ((l.getD j 0 : Nat) : Int) ≠ o) (h : ((l[k] : Nat) : Int) = o) : placeOf l o = k := by
  unfold placeOf
  have : l.findIdx? (fun (x : Nat) => (x : Int) == o) = some k := by
    rw [List.findIdx?_eq_some_iff_getElem]
    refine ⟨hk, by simpa using h, fun j hj => ?_⟩
    have := hno j hj
    rw [List.getD_eq_getElem?_getD, List.getElem?_eq_getElem (by omega)] at this
    simpa using this
  rw [this]

theorem placeOf_none {l : List Nat} {o : Int} (hno : ∀ j, j < l.length → ((l.getD j 0 : Nat) : Int) ≠ o) : placeOf l o = -1 := by
  unfold placeOf
  have : l.findIdx? (fun (x : Nat) => (x : Int) == o) = none := by
    rw [List.findIdx?_eq_none_iff]
    intro x hx
    obtain ⟨j, hj, rfl⟩ := List.getElem_of_mem hx
    have := hno j hj
    rw [List.getD_eq_getElem?_getD, List.getElem?_eq_getElem hj] at this
    simpa using this
  rw [this]

end Go.Proofs.Cl
