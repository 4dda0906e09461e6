/- Lemmas for this claim, in parts: Float. -/
import Ieee.Arith
import Derived.Laws.FloatBits
set_option maxRecDepth 100000
set_option maxHeartbeats 4000000
set_option linter.unusedVariables false
set_option linter.unusedSimpArgs false
namespace Go.Proofs.Fl
open Ieee

/-- the double format -/
abbrev F := Ieee.double

/-- the magnitude that a rung stands for, in units of the least place -/
def sv (r : Nat) : Nat := if r < 2 ^ 52 then r else (2 ^ 52 + r % 2 ^ 52) * 2 ^ (r / 2 ^ 52 - 1)

def fnan (x : Nat) : Bool := decide (2047 * 2 ^ 52 < x % 2 ^ 63)
def fneg (x : Nat) : Bool := x / 2 ^ 63 % 2 == 1
def rung (x : Nat) : Nat := x % 2 ^ 63

theorem signWeight_eq : F.signWeight = 2 ^ 63 := rfl
theorem binade_eq : F.binade = 2 ^ 52 := rfl
theorem infRung_eq : F.infRung = 2047 * 2 ^ 52 := rfl
theorem leastPlace_eq : F.leastPlace = -1074 := rfl

theorem read_eq (x : Nat) : F.read x =
    if rung x < 2 ^ 52 then .number (fneg x) (rung x) (-1074)
    else if rung x < 2047 * 2 ^ 52 then .number (fneg x) (2 ^ 52 + rung x % 2 ^ 52) (-1074 + (rung x / 2 ^ 52 - 1 : Nat))
    else if rung x = 2047 * 2 ^ 52 then .infinity (fneg x) else .nan (fneg x) (rung x - 2047 * 2 ^ 52) := rfl

theorem sv_lt {a b : Nat} (h : a < b) : sv a < sv b := by
  unfold sv
  by_cases ha : a < 2 ^ 52
  · rw [if_pos ha]
    by_cases hb : b < 2 ^ 52
    · rw [if_pos hb]; exact h
    · rw [if_neg hb]
      have h1 : 1 ≤ 2 ^ (b / 2 ^ 52 - 1) := Nat.one_le_two_pow
      calc a < 2 ^ 52 := ha
        _ ≤ (2 ^ 52 + b % 2 ^ 52) * 1 := by omega
        _ ≤ _ := Nat.mul_le_mul_left _ h1
  · have hb : ¬ b < 2 ^ 52 := by omega
    rw [if_neg ha, if_neg hb]
    have hq : a / 2 ^ 52 ≤ b / 2 ^ 52 := Nat.div_le_div_right (by omega)
    rcases Nat.lt_or_ge (a / 2 ^ 52) (b / 2 ^ 52) with hlt | hge
    · have hm : a % 2 ^ 52 < 2 ^ 52 := Nat.mod_lt _ (by decide)
      have e : b / 2 ^ 52 - 1 = (a / 2 ^ 52 - 1) + 1 + (b / 2 ^ 52 - 1 - a / 2 ^ 52) := by omega
      rw [e, Nat.pow_add, Nat.pow_add]
      have h1 : 1 ≤ 2 ^ (b / 2 ^ 52 - 1 - a / 2 ^ 52) := Nat.one_le_two_pow
      have h2 : 0 < 2 ^ (a / 2 ^ 52 - 1) := Nat.two_pow_pos _
      generalize 2 ^ (b / 2 ^ 52 - 1 - a / 2 ^ 52) = p at *
      generalize 2 ^ (a / 2 ^ 52 - 1) = q at *
      calc (2 ^ 52 + a % 2 ^ 52) * q < (2 ^ 52 + 2 ^ 52) * q := Nat.mul_lt_mul_of_pos_right (by omega) h2
        _ = 2 ^ 52 * (q * 2 ^ 1 * 1) := by simp; omega
        _ ≤ (2 ^ 52 + b % 2 ^ 52) * (q * 2 ^ 1 * p) := Nat.mul_le_mul (by omega) (Nat.mul_le_mul_left _ h1)
    · have e : a / 2 ^ 52 = b / 2 ^ 52 := by omega
      rw [← e]
      exact Nat.mul_lt_mul_of_pos_right (by omega) (Nat.two_pow_pos _)

theorem sv_inj {a b : Nat} (h : sv a = sv b) : a = b := by
  rcases Nat.lt_trichotomy a b with hl | he | hg
  · have := sv_lt hl; omega
  · exact he
  · have := sv_lt hg; omega

theorem sv_zero {a : Nat} : sv a = 0 ↔ a = 0 := by
  constructor
  · intro h; exact sv_inj (h.trans (by decide))
  · rintro rfl; decide

/-- a number that is not infinite, not NaN: its sign and its magnitude in least places -/
theorem read_fin {x : Nat} (h : rung x < 2047 * 2 ^ 52) : ∃ m e, F.read x = .number (fneg x) m e ∧ -1074 ≤ e ∧ m * 2 ^ (e + 1074).toNat = sv (rung x) := by
  rw [read_eq]
  unfold sv
  by_cases h1 : rung x < 2 ^ 52
  · rw [if_pos h1, if_pos h1]
    exact ⟨_, _, rfl, by omega, by simp⟩
  · rw [if_neg h1, if_neg h1, if_pos h]
    refine ⟨_, _, rfl, by omega, ?_⟩
    congr 2
    omega

theorem shift_eq {m : Nat} {i b : Int} (hb : b ≤ i) (hL : -1074 ≤ b) : (m <<< (i - b).toNat) * 2 ^ (b + 1074).toNat = m * 2 ^ (i + 1074).toNat := by
  rw [Nat.shiftLeft_eq, Nat.mul_assoc, ← Nat.pow_add]
  congr 2
  omega

theorem signed_scale {s : Bool} {m k p : Nat} : signed s m k * (p : Int) = if s then -(((m <<< k) * p : Nat) : Int) else (((m <<< k) * p : Nat) : Int) := by
  unfold signed
  cases s <;> simp [Int.neg_mul]

/-- the order of two finite numbers is that of their magnitudes with signs -/
def fval (x : Nat) : Int := if fneg x then -((sv (rung x) : Nat) : Int) else ((sv (rung x) : Nat) : Int)

theorem compare_scale {a b : Int} {p : Nat} (hp : 0 < p) : compare (a * (p : Int)) (b * (p : Int)) = compare a b := by
  have hp' : (0 : Int) < p := by omega
  rcases Int.lt_trichotomy a b with h | h | h
  · have h1 : a * (p : Int) < b * (p : Int) := Int.mul_lt_mul_of_pos_right h hp'
    rw [Int.compare_eq_lt.2 h, Int.compare_eq_lt.2 h1]
  · subst h; simp
  · have h1 : b * (p : Int) < a * (p : Int) := Int.mul_lt_mul_of_pos_right h hp'
    rw [Int.compare_eq_gt.2 h, Int.compare_eq_gt.2 h1]

theorem order_fin {x y : Nat} (hx : rung x < 2047 * 2 ^ 52) (hy : rung y < 2047 * 2 ^ 52) : F.order x y = some (compare (fval x) (fval y)) := by
  obtain ⟨m, i, hm, hi, hmv⟩ := read_fin hx
  obtain ⟨n, j, hn, hj, hnv⟩ := read_fin hy
  unfold Format.order
  rw [hm, hn]
  simp only [Datum.order]
  congr 1
  have hb1 : min i j ≤ i := by omega
  have hb2 : min i j ≤ j := by omega
  have hL : -1074 ≤ min i j := by omega
  generalize min i j = b at *
  rw [← compare_scale (p := 2 ^ (b + 1074).toNat) (Nat.two_pow_pos _), signed_scale, signed_scale, shift_eq hb1 hL, shift_eq hb2 hL, hmv, hnv]
  rfl

theorem rung_lt (x : Nat) : rung x < 2 ^ 63 := Nat.mod_lt _ (by decide)

theorem fnan_iff {x : Nat} : fnan x = true ↔ 2047 * 2 ^ 52 < rung x := by simp [fnan, rung]

theorem read_inf {x : Nat} (h : rung x = 2047 * 2 ^ 52) : F.read x = .infinity (fneg x) := by
  rw [read_eq, if_neg (by omega), if_neg (by omega), if_pos h]

theorem read_nan {x : Nat} (h : 2047 * 2 ^ 52 < rung x) : F.read x = .nan (fneg x) (rung x - 2047 * 2 ^ 52) := by
  rw [read_eq, if_neg (by omega), if_neg (by omega), if_neg (by omega)]

theorem order_nan_left {x : Nat} (y : Nat) (h : fnan x = true) : F.order x y = none := by
  unfold Format.order
  rw [read_nan (fnan_iff.1 h)]
  rfl

theorem order_nan_right (x : Nat) {y : Nat} (h : fnan y = true) : F.order x y = none := by
  unfold Format.order
  rw [read_nan (fnan_iff.1 h)]
  cases F.read x <;> rfl

theorem not_fnan {x : Nat} (h : fnan x = false) : rung x ≤ 2047 * 2 ^ 52 := by
  rcases Nat.lt_or_ge (2047 * 2 ^ 52) (rung x) with hl | hl
  · rw [fnan_iff.2 hl] at h; cases h
  · exact hl

theorem order_num {x y : Nat} (hx : fnan x = false) (hy : fnan y = false) : F.order x y = some (compare (fval x) (fval y)) := by
  have hx' := not_fnan hx
  have hy' := not_fnan hy
  rcases Nat.lt_or_eq_of_le hx' with hx1 | hx1
  · rcases Nat.lt_or_eq_of_le hy' with hy1 | hy1
    · exact order_fin hx1 hy1
    · obtain ⟨m, i, hm, _, _⟩ := read_fin hx1
      have hl : sv (rung x) < sv (rung y) := sv_lt (by omega)
      unfold Format.order
      rw [hm, read_inf hy1]
      unfold fval
      simp only [Datum.order]
      congr 1
      cases fneg y
      · simp only [Bool.false_eq_true, if_false]
        exact (Int.compare_eq_lt.2 (by split <;> omega)).symm
      · simp only [if_true]
        exact (Int.compare_eq_gt.2 (by split <;> omega)).symm
  · rcases Nat.lt_or_eq_of_le hy' with hy1 | hy1
    · obtain ⟨m, i, hm, _, _⟩ := read_fin hy1
      have hl : sv (rung y) < sv (rung x) := sv_lt (by omega)
      unfold Format.order
      rw [hm, read_inf hx1]
      unfold fval
      simp only [Datum.order]
      congr 1
      cases fneg x
      · simp only [Bool.false_eq_true, if_false]
        exact (Int.compare_eq_gt.2 (by split <;> omega)).symm
      · simp only [if_true]
        exact (Int.compare_eq_lt.2 (by split <;> omega)).symm
    · unfold Format.order
      rw [read_inf hx1, read_inf hy1]
      unfold fval
      rw [hx1, hy1]
      simp only [Datum.order]
      congr 1
      have hp : 0 < sv (2047 * 2 ^ 52) := by
        have := sv_lt (show 0 < 2047 * 2 ^ 52 by decide)
        omega
      generalize sv (2047 * 2 ^ 52) = k at *
      cases fneg x <;> cases fneg y
      · simp
      · simp only [Bool.false_eq_true, if_false, if_true]
        exact (Int.compare_eq_gt.2 (by omega)).symm
      · simp only [Bool.false_eq_true, if_false, if_true]
        exact (Int.compare_eq_lt.2 (by omega)).symm
      · simp

/-- '==' of two words -/
def feq (x y : Nat) : Bool := F.order x y == some .eq
def flt (x y : Nat) : Bool := F.order x y == some .lt

theorem feq_self (x : Nat) : feq x x = !fnan x := by
  unfold feq
  cases h : fnan x
  · rw [order_num h h]; simp
  · rw [order_nan_left _ h]; rfl

theorem fneg_word {x : Nat} (h : x < 2 ^ 64) : x = rung x + (if fneg x then 2 ^ 63 else 0) := by
  unfold rung fneg
  have h1 : x / 2 ^ 63 < 2 := by omega
  have : x / 2 ^ 63 = 0 ∨ x / 2 ^ 63 = 1 := by omega
  rcases this with h2 | h2 <;> rw [h2] <;> simp <;> omega

theorem feq_iff {x y : Nat} (hx : x < 2 ^ 64) (hy : y < 2 ^ 64) : feq x y = true ↔ fnan x = false ∧ fnan y = false ∧ (x = y ∨ (rung x = 0 ∧ rung y = 0)) := by
  unfold feq
  cases h : fnan x
  · cases h' : fnan y
    · rw [order_num h h']
      simp only [true_and]
      have ex := fneg_word hx
      have ey := fneg_word hy
      constructor
      · intro hc
        have hc' : compare (fval x) (fval y) = .eq := by simpa using hc
        have hv : fval x = fval y := Int.compare_eq_eq.1 hc'
        unfold fval at hv
        by_cases h0 : rung x = 0
        · have : sv (rung x) = 0 := sv_zero.2 h0
          have h2 : sv (rung y) = 0 := by rw [this] at hv; split at hv <;> split at hv <;> omega
          exact .inr ⟨h0, sv_zero.1 h2⟩
        · have hp : 0 < sv (rung x) := by
            have : sv (rung x) ≠ 0 := fun e => h0 (sv_zero.1 e)
            omega
          left
          have hs : fneg x = fneg y := by
            cases hnx : fneg x <;> cases hny : fneg y <;> simp only [hnx, hny, if_true, if_false, Bool.false_eq_true] at hv <;> first | rfl | omega
          have hr : sv (rung x) = sv (rung y) := by
            rw [hs] at hv
            split at hv <;> omega
          have hr' := sv_inj hr
          rw [ex, ey, hs, hr']
      · intro hc
        have hv : fval x = fval y := by
          rcases hc with rfl | ⟨h1, h2⟩
          · rfl
          · unfold fval; rw [h1, h2]; simp [sv_zero.2 rfl]
        rw [hv]; simp
    · rw [order_nan_right _ h']; simp
  · rw [order_nan_left _ h]; simp

theorem feq_zero {x : Nat} (hx : x < 2 ^ 64) : feq x 0 = true ↔ x = 0 ∨ x = 2 ^ 63 := by
  rw [feq_iff hx (by decide)]
  have h0 : rung 0 = 0 := rfl
  constructor
  · rintro ⟨_, _, h⟩
    rcases h with h | ⟨h, _⟩
    · exact .inl h
    · have := fneg_word hx
      rw [h] at this
      split at this <;> omega
  · rintro (rfl | rfl)
    · exact ⟨by decide, by decide, .inl rfl⟩
    · exact ⟨by decide, by decide, .inr ⟨by decide, rfl⟩⟩

/-- one word, or two not-a-numbers -/
def same (x y : Nat) : Bool := x == y || fnan x && fnan y

theorem same_refl (x : Nat) : same x x = true := by simp [same]

theorem div_zero_pos : F.div 4607182418800017408 0 = some (2047 * 2 ^ 52) := by decide +kernel
theorem div_zero_neg : F.div 4607182418800017408 (2 ^ 63) = some (2 ^ 63 + 2047 * 2 ^ 52) := by decide +kernel
theorem inf_lt_zero : flt (2047 * 2 ^ 52) 0 = false := by decide +kernel
theorem neginf_lt_zero : flt (2 ^ 63 + 2047 * 2 ^ 52) 0 = true := by decide +kernel

end Go.Proofs.Fl
