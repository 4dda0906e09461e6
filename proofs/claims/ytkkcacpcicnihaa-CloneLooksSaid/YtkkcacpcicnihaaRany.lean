import Derived.Test.YtkkcacpcicnihaaJoined
import Derived.Test.YtkkcacpcicnihaaIdx
namespace Go.Proofs.Ytkkcacpcicnihaa
open Go.RowKit Go.Maps
open Go.Proofs.Cl
open Go.Proofs

theorem placeOf_idx {r : List Nat} (hn : r.Nodup) {x : Nat} (h : x ∈ r) : placeOf r (x : Int) = ((r.idxOf x : Nat) : Int) := by
  have hl := List.idxOf_lt_length_of_mem h
  refine placeOf_found hl (fun j hj e => ?_) (by simp)
  have := nodup_ne hn hj hl
  rw [getD_idxOf h] at this
  omega

theorem isObj_iff {n : Nat} {v : V} : isObj n v = true ↔ among n v ≠ 0 := by
  constructor
  · intro h; have := among_id h
    obtain ⟨_, h2, _⟩ : v.kind = 7 ∧ 1 ≤ v.id ∧ v.id ≤ n := by simpa [isObj] using h
    omega
  · intro h
    unfold isObj
    rw [decide_eq_true_eq]
    exact Decidable.byContradiction fun hc => h (among_neg hc)

theorem isObj_no {n : Nat} {v : V} (h : among n v = 0) : isObj n v = false := by
  cases hh : isObj n v
  · rfl
  · exact absurd h (isObj_iff.1 hh)

/-- a value that is no object of these, or one that the list has -/
def Has (n : Nat) (r : List Nat) (v : V) : Prop := among n v = 0 ∨ among n v ∈ r

/-- the reference's comparison of two values -/
theorem rsame_any (a b : V) (A B : Option Addr) (ca cb : Nat) (r s : List Nat) (n m : Nat) (w : World) (hA : NatsAt w A r) (hB : NatsAt w B s) (hr : Cl.Good n r) (hs : Cl.Good m s) (hn : n ≤ 200) (hm : m ≤ 200)
    (ha : Has n r a) (hb : Has m s b) (na : a.num < 2 ^ 64) (nb : b.num < 2 ^ 64) :
    Calls Try.prog 23 #[vAgg a, .slice A r.length ca, .int .i64 (n : Int), vAgg b, .slice B s.length cb, .int .i64 (m : Int)] w fun e w' => e = .returned (.bool (pSame n r m s a b)) ∧ Below w.heap.size w w' := by
  have lr := hr.length_le
  have ls := hs.length_le
  have z1 : (0 : Nat) ∉ r := fun h => by have := hr.2 0 h; omega
  have z2 : (0 : Nat) ∉ s := fun h => by have := hs.2 0 h; omega
  by_cases h1 : among n a = 0
  · by_cases h2 : among m b = 0
    · have e : pSame n r m s a b = plainSame a b := by unfold pSame; rw [if_pos ⟨h1, h2⟩]
      rw [e]
      exact rsame_plain a b A B ca cb r s n m w na nb (isObj_no h1) (isObj_no h2)
    · have e : pSame n r m s a b = false := by unfold pSame; rw [if_neg (fun h => h2 h.2), h1, decide_eq_false z1]; rfl
      rw [e]
      exact rsame_ft a b A B ca cb r s n m w (isObj_no h1) (isObj_iff.2 h2)
  · by_cases h2 : among m b = 0
    · have e : pSame n r m s a b = false := by unfold pSame; rw [if_neg (fun h => h1 h.1), h2, decide_eq_false z2, Bool.and_false]; rfl
      rw [e]
      exact rsame_tf a b A B ca cb r s n m w (isObj_iff.2 h1) (isObj_no h2)
    · have ma : among n a ∈ r := ha.resolve_left h1
      have mb : among m b ∈ s := hb.resolve_left h2
      refine (rsame_tt a b A B ca cb r s n m w hA hB (by omega) (by omega) (isObj_iff.2 h1) (isObj_iff.2 h2)).mono fun e' w' h => ⟨h.1.trans (ret_b ?_), h.2⟩
      unfold pSame
      rw [if_neg (fun h => h1 h.1), decide_eq_true ma, decide_eq_true mb, ← among_id (isObj_iff.2 h1), ← among_id (isObj_iff.2 h2), placeOf_idx hr.1 ma, placeOf_idx hs.1 mb]
      simp only [Bool.true_and]
      rw [Bool.eq_iff_iff, beq_iff_eq, beq_iff_eq]
      omega

end Go.Proofs.Ytkkcacpcicnihaa
