import Derived.Test.YtkkcacpcicnihaaRows
import Derived.Test.YtkkcacpcicnihaaPlain
import Derived.WalkKit
import Derived.WalkLawsBesides
import Derived.WalkSpells
import Derived.Deep.QuietTactic
import Derived.BigQuiet
import Derived.Outline
import Derived.Lib.Hide
namespace Go.Proofs.Ytkkcacpcicnihaa
open Go.RowKit
open Go.Proofs.Cl

abbrev vAgg (v : V) : Value := .agg #[.int .i64 v.kind, .bool v.bool, .float .f64 v.num, .string v.str, .int .i64 v.id]

theorem ret_i {a b : Int} (h : a = b) : Ending.returned (.int .i64 a) = .returned (.int .i64 b) := by rw [h]
theorem ret_b {a b : Bool} (h : a = b) : Ending.returned (.bool a) = .returned (.bool b) := by rw [h]

theorem among_pos {n : Nat} {v : V} (h : v.kind = 7) (h1 : 1 ≤ v.id) (h2 : v.id ≤ n) : ((among n v : Nat) : Int) = v.id := by
  unfold among; rw [if_pos ⟨h, h1, h2⟩]; omega
theorem among_neg {n : Nat} {v : V} (h : ¬ (v.kind = 7 ∧ 1 ≤ v.id ∧ v.id ≤ n)) : among n v = 0 := by
  unfold among; rw [if_neg h]

set_option maxHeartbeats 400000 in
theorem among_any (n : Nat) (v : V) (w : World) :
    Calls Try.prog 18 #[.int .i64 (n : Int), vAgg v] w fun e w' => e = .returned (.int .i64 (among n v : Nat)) ∧ Below w.heap.size w w' := by
  obtain ⟨k, b, x, s, i⟩ := v
  go_enter Try.func18, Try.ntmps18
  go_wp2
  all_goals go_ret
  all_goals refine ⟨ret_i ?_, (Below.refl _ _).alloc (Nat.le_refl _) _⟩
  all_goals first | (rw [among_pos] <;> simp <;> omega) | (rw [among_neg] <;> simp <;> omega)


set_option maxHeartbeats 400000 in
theorem object_any (n : Nat) (v : V) (w : World) :
    Calls Try.prog 31 #[vAgg v, .int .i64 (n : Int)] w fun e w' => e = .returned (.bool (isObj n v)) ∧ Below w.heap.size w w' := by
  obtain ⟨k, b, x, s, i⟩ := v
  go_enter Try.func31, Try.ntmps31
  go_wp2
  all_goals go_ret
  all_goals refine ⟨ret_b ?_, (Below.refl _ _).alloc (Nat.le_refl _) _⟩
  all_goals unfold isObj
  all_goals rw [Bool.eq_iff_iff]
  all_goals simp
  all_goals omega

/-- a slice's numbers, as they lie there -/
def NatsAt (w : World) (A : Option Addr) (l : List Nat) : Prop :=
  ∀ i, i < l.length → ∃ b off, A = some ⟨b, off, none⟩ ∧ b < w.heap.size ∧ w.cell? ⟨b, off + i, none⟩ = some (.int .i64 ((l.getD i 0 : Nat) : Int))

theorem NatsAt.below {w w' : World} {A : Option Addr} {l : List Nat} (h : NatsAt w A l) (hb : Below w.heap.size w w') : NatsAt w' A l := fun i hi => by
  obtain ⟨b, off, hA, hlt, hc⟩ := h i hi
  exact ⟨b, off, hA, Nat.lt_of_lt_of_le hlt hb.size, (hb.cell (p := ⟨b, off + i, none⟩) hlt).trans hc⟩

set_option maxHeartbeats 400000 in
theorem place_any (A : Option Addr) (cap : Nat) (l : List Nat) (o : Int) (w : World) (hl : l.length ≤ 1000000) (hc : NatsAt w A l) :
    Calls Try.prog 32 #[.slice A l.length cap, .int .i64 o] w fun e w' => e = .returned (.int .i64 (placeOf l o)) ∧ w = w' := by
  have HC := Lib.hid hc
  clear hc
  go_enter Try.func32, Try.ntmps32
  go_wp2
  go_loop [5] (fun i => ∃ k : Nat, k ≤ l.length ∧ i = .int .i64 k ∧ ∀ j, j < k → ((l.getD j 0 : Nat) : Int) ≠ o) (fun i => l.length - (intOf i).toNat)
  case atStart => exact ⟨0, Nat.zero_le _, rfl, fun j hj => absurd hj (by omega)⟩
  case round =>
    obtain ⟨k, hk, rfl, hno⟩ := hrel
    have HN := Lib.hid hno
    clear hno
    by_cases hlt : k < l.length
    · obtain ⟨b, off, rfl, _, hcell⟩ := HC.out k hlt
      go_wp2
      · go_ret
        have h : (((l[k] : Nat) : Int) == o) = true := by assumption
        exact ⟨ret_i (placeOf_found hlt HN.out (by simpa using h)).symm, rfl⟩
      · go_round
        case rel =>
          have h : (((l[k] : Nat) : Int) == o) = false := by assumption
          refine ⟨k + 1, by omega, by go_num, fun j hj => ?_⟩
          rcases Nat.lt_or_ge j k with hj' | hj'
          · exact HN.out j hj'
          · have : j = k := by omega
            subst this
            rw [List.getD_eq_getElem?_getD, List.getElem?_eq_getElem hlt]
            simpa using h
        case measure => simp [intOf]; omega
    · go_wp2
      go_ret
      exact ⟨ret_i (placeOf_none fun j hj => HN.out j (by omega)).symm, rfl⟩

end Go.Proofs.Ytkkcacpcicnihaa
