/- Lemmas for this claim, in parts: Calc. -/
import GoSem.Core.Value
import Derived.Test.YtoalboilghgalaaGreatDoorC04
set_option maxRecDepth 100000
set_option maxHeartbeats 4000000
set_option linter.unusedVariables false
set_option linter.unusedSimpArgs false
/- Property descriptors, reckoned: plain Lean, no program. -/
namespace Go.Proofs.Dc
open Go
open Go.Proofs

structure V where
  kind : Int
  bool : Bool
  num : Nat
  str : ByteArray
  id : Int

structure Ds where
  val : V
  get : V
  set : V
  w : Int
  e : Int
  c : Int

structure Ky where
  str : ByteArray
  sym : Int

def v0 : V := ⟨0, false, 0, ByteArray.empty, 0⟩
def vU : V := ⟨1, false, 0, ByteArray.empty, 0⟩
def d0 : Ds := ⟨v0, v0, v0, 0, 0, 0⟩

def seq (a b : ByteArray) : Bool := a.toList == b.toList
def isE (a : ByteArray) : Bool := a.size == 0

section
variable (uv : ByteArray → Bool)

def there (v : V) : Bool := v.kind != 0
def absent (v : V) : Bool := v.kind == 0 && !v.bool && v.num == 0 && isE v.str && v.id == 0
/-- value.in is something -/
def vin (v : V) : Bool :=
  if v.kind = 5 then decide (v.str.size ≤ 1048576) && uv v.str
  else if v.kind = 6 then decide (1 ≤ v.id ∧ v.id ≤ 65536)
  else if v.kind = 7 then decide (1 ≤ v.id ∧ v.id ≤ 65536)
  else decide (1 ≤ v.kind ∧ v.kind ≤ 4)
/-- nothing but what belongs to its type is set -/
def plain (v : V) : Bool :=
  (v.kind == 3 || !v.bool) && (v.kind == 5 || isE v.str) && (v.kind == 6 || v.kind == 7 || v.id == 0) && (v.kind == 4 || v.num == 0)
def good (v : V) : Bool := vin uv v && plain v

def same (a b : V) : Bool :=
  good uv a && good uv b && a.kind == b.kind && (if a.kind = 4 then Fl.same a.num b.num else a.bool == b.bool && seq a.str b.str && a.id == b.id)

def alike (a b : V) : Bool := if !there a || !there b then there a == there b else same uv a b

def tri (t : Int) : Bool := decide (0 ≤ t ∧ t ≤ 2)
def callab (v : V) : Bool := absent v || (good uv v && (v.kind == 1 || v.kind == 7))
def formed (d : Ds) : Bool := (absent d.val || good uv d.val) && callab uv d.get && callab uv d.set && tri d.w && tri d.e && tri d.c
/-- desc.kind: 0 generic, 1 data, 2 accessor; and whether it is well formed -/
def kindN (d : Ds) : Nat :=
  if !formed uv d then 0 else if there d.val || d.w != 0 then 1 else if there d.get || there d.set then 2 else 0
def kindB (d : Ds) : Bool :=
  if !formed uv d then false else if there d.val || d.w != 0 then !(there d.get || there d.set) else true

def fill (v : V) : V := if there v then v else vU
def fillT (t b : Int) : Int := if t = 0 then b else t
def complete (d : Ds) : Ds :=
  if kindN uv d = 2 then ⟨d.val, fill d.get, fill d.set, d.w, fillT d.e 1, fillT d.c 1⟩
  else ⟨fill d.val, d.get, d.set, fillT d.w 1, fillT d.e 1, fillT d.c 1⟩
def equal (a b : Ds) : Bool := a.w == b.w && a.e == b.e && a.c == b.c && alike uv a.val b.val && alike uv a.get b.get && alike uv a.set b.set
def whole (d : Ds) : Bool := kindB uv d && kindN uv d != 0 && equal uv (complete uv d) d
def zero (d : Ds) : Bool := d.w == 0 && d.e == 0 && d.c == 0 && absent d.val && absent d.get && absent d.set
def barred (now d : Ds) : Bool :=
  if d.c == 2 || (d.e != 0 && d.e != now.e) then true
  else if kindN uv d = 0 then false
  else if kindN uv d ≠ kindN uv now then true
  else if kindN uv d = 2 then (there d.get && !alike uv d.get now.get) || (there d.set && !alike uv d.set now.set)
  else now.w == 1 && (d.w == 2 || (there d.val && !alike uv d.val now.val))
def overV (a b : V) : V := if there b then b else a
def overT (a b : Int) : Int := if b = 0 then a else b
def over (now d : Ds) : Ds := ⟨overV now.val d.val, overV now.get d.get, overV now.set d.set, overT now.w d.w, overT now.e d.e, overT now.c d.c⟩

/-- desc.Apply, where the descriptor is well formed and the property is whole or none: what it becomes, and whether it may -/
def apply (ext : Bool) (now d : Ds) : Ds × Bool :=
  if zero now then (if ext then (complete uv d, true) else (now, false))
  else if now.c == 1 && barred uv now d then (now, false)
  else if kindN uv d ≠ 0 ∧ kindN uv d ≠ kindN uv now then (complete uv { d with e := fillT d.e now.e, c := fillT d.c now.c }, true)
  else (over now d, true)

/-- what a whole property is like -/
structure Whole (d : Ds) : Prop where
  e : d.e = 1 ∨ d.e = 2
  c : d.c = 1 ∨ d.c = 2
  sort : (good uv d.val = true ∧ absent d.get = true ∧ absent d.set = true ∧ (d.w = 1 ∨ d.w = 2)) ∨
    (absent d.val = true ∧ d.w = 0 ∧ (good uv d.get = true ∧ (d.get.kind = 1 ∨ d.get.kind = 7)) ∧ (good uv d.set = true ∧ (d.set.kind = 1 ∨ d.set.kind = 7)))
end

variable {uv : ByteArray → Bool}

theorem there_absent {v : V} (h : absent v = true) : there v = false := by
  simp only [absent, Bool.and_eq_true, beq_iff_eq] at h
  simp [there, h.1.1.1.1]
theorem there_good {v : V} (h : good uv v = true) : there v = true := by
  simp only [good, Bool.and_eq_true] at h
  have h1 := h.1
  unfold vin at h1
  simp only [there, bne_iff_ne, ne_eq]
  intro hk
  rw [hk] at h1
  simp at h1
theorem not_absent_good {v : V} (h : good uv v = true) : absent v = false := by
  cases hh : absent v
  · rfl
  · have := there_absent hh; rw [there_good h] at this; cases this
theorem fl_same_refl (x : Nat) : Fl.same x x = true := by simp [Fl.same]
theorem same_refl {v : V} (h : good uv v = true) : same uv v v = true := by
  unfold same
  simp only [h, Bool.true_and, beq_self_eq_true]
  split
  · exact fl_same_refl _
  · simp [seq]
theorem alike_refl {v : V} (h : absent v = true ∨ good uv v = true) : alike uv v v = true := by
  unfold alike
  rcases h with h | h
  · simp [there_absent h]
  · simp [there_good h, same_refl h]
theorem good_vU : good uv vU = true := by simp [good, vin, plain, vU, isE, ByteArray.size_empty]
theorem callab_iff {v : V} : callab uv v = true ↔ absent v = true ∨ (good uv v = true ∧ (v.kind = 1 ∨ v.kind = 7)) := by
  simp [callab]
theorem tri_iff {t : Int} : tri t = true ↔ t = 0 ∨ t = 1 ∨ t = 2 := by simp [tri]; omega

theorem formed_iff {d : Ds} : formed uv d = true ↔ (absent d.val = true ∨ good uv d.val = true) ∧ callab uv d.get = true ∧ callab uv d.set = true ∧ tri d.w = true ∧ tri d.e = true ∧ tri d.c = true := by
  simp [formed, and_assoc]

theorem Whole.formed {d : Ds} (h : Whole uv d) : formed uv d = true := by
  rw [formed_iff, callab_iff, callab_iff, tri_iff, tri_iff, tri_iff]
  obtain ⟨he, hc, hs⟩ := h
  rcases hs with ⟨h1, h2, h3, h4⟩ | ⟨h1, h2, h3, h4⟩
  · exact ⟨.inr h1, .inl h2, .inl h3, by omega, by omega, by omega⟩
  · exact ⟨.inl h1, .inr h3, .inr h4, by omega, by omega, by omega⟩

theorem Whole.kindN {d : Ds} (h : Whole uv d) : kindN uv d = if there d.val then 1 else 2 := by
  unfold Dc.kindN
  rw [h.formed]
  obtain ⟨he, hc, hs⟩ := h
  rcases hs with ⟨h1, h2, h3, h4⟩ | ⟨h1, h2, ⟨h3, _⟩, h4, _⟩
  · simp [there_good h1]
  · simp [there_absent h1, there_good h3, h2]
theorem Whole.kindB {d : Ds} (h : Whole uv d) : kindB uv d = true := by
  unfold Dc.kindB
  rw [h.formed]
  obtain ⟨he, hc, hs⟩ := h
  rcases hs with ⟨h1, h2, h3, h4⟩ | ⟨h1, h2, ⟨h3, _⟩, h4, _⟩
  · simp [there_absent h2, there_absent h3]
  · simp [there_absent h1, h2]

theorem Whole.zero {d : Ds} (h : Whole uv d) : zero d = false := by
  unfold Dc.zero
  have : (d.e == 0) = false := by have := h.e; simp; omega
  simp [this]

theorem zero_eq {d : Ds} (h : zero d = true) : formed uv d = true := by
  simp only [Dc.zero, Bool.and_eq_true, beq_iff_eq] at h
  rw [formed_iff, callab_iff, callab_iff, tri_iff, tri_iff, tri_iff]
  exact ⟨.inl h.1.1.2, .inl h.1.2, .inl h.2, .inl h.1.1.1.1.1, .inl h.1.1.1.1.2, .inl h.1.1.1.2⟩

/-- what 'complete' makes of a well-formed descriptor is whole -/
theorem complete_whole {d : Ds} (hk : kindB uv d = true) : Whole uv (complete uv d) := by
  have hf : formed uv d = true := by
    cases hh : formed uv d
    · simp [Dc.kindB, hh] at hk
    · rfl
  have hf' := hf
  rw [formed_iff, callab_iff, callab_iff, tri_iff, tri_iff, tri_iff] at hf
  obtain ⟨hv, hg, hs, hw, he, hc⟩ := hf
  have fT : ∀ t : Int, (t = 0 ∨ t = 1 ∨ t = 2) → fillT t 1 = 1 ∨ fillT t 1 = 2 := by
    intro t ht; unfold fillT; split <;> omega
  unfold complete
  by_cases h2 : kindN uv d = 2
  · rw [if_pos h2]
    simp only [Dc.kindN, hf', Bool.not_true, Bool.false_eq_true, if_false] at h2
    split at h2
    · cases h2
    · rename_i hn
      split at h2
      · rename_i ho
        simp only [Bool.or_eq_true, not_or, Bool.not_eq_true, bne_eq_false_iff_eq] at hn
        have hv0 : absent d.val = true := by
          rcases hv with h | h
          · exact h
          · rw [there_good h] at hn; cases hn.1
        refine ⟨fT _ he, fT _ hc, .inr ⟨hv0, hn.2, ?_, ?_⟩⟩
        · rcases hg with h | ⟨h, h'⟩
          · simp [fill, there_absent h, good_vU]; simp [vU]
          · simp [fill, there_good h, h, h']
        · rcases hs with h | ⟨h, h'⟩
          · simp [fill, there_absent h, good_vU]; simp [vU]
          · simp [fill, there_good h, h, h']
      · cases h2
  · rw [if_neg h2]
    simp only [Dc.kindN, hf', Bool.not_true, Bool.false_eq_true, if_false] at h2
    simp only [Dc.kindB, hf', Bool.not_true, Bool.false_eq_true, if_false] at hk
    have hgs : there d.get = false ∧ there d.set = false := by
      split at h2
      · rename_i hd
        rw [if_pos hd] at hk
        simpa using hk
      · split at h2
        · exact absurd rfl h2
        · rename_i ho
          simpa using ho
    have hg0 : absent d.get = true := by
      rcases hg with h | ⟨h, _⟩
      · exact h
      · rw [there_good h] at hgs; cases hgs.1
    have hs0 : absent d.set = true := by
      rcases hs with h | ⟨h, _⟩
      · exact h
      · rw [there_good h] at hgs; cases hgs.2
    refine ⟨fT _ he, fT _ hc, .inl ⟨?_, hg0, hs0, fT _ hw⟩⟩
    rcases hv with h | h
    · simp [fill, there_absent h, good_vU]
    · simp [fill, there_good h, h]

theorem Whole.complete {d : Ds} (h : Whole uv d) : complete uv d = d := by
  have hk := h.kindN
  obtain ⟨he, hc, hs⟩ := h
  have f1 : ∀ {t : Int}, (t = 1 ∨ t = 2) → fillT t 1 = t := by intro t ht; unfold fillT; split <;> omega
  unfold Dc.complete
  rcases hs with ⟨h1, h2, h3, h4⟩ | ⟨h1, h2, ⟨h3, _⟩, h4, _⟩
  · rw [there_good h1] at hk
    rw [if_neg (by rw [hk]; simp), f1 he, f1 hc, f1 h4]
    simp [fill, there_good h1]
  · rw [there_absent h1] at hk
    rw [if_pos (by rw [hk]; simp), f1 he, f1 hc]
    simp [fill, there_good h3, there_good h4]

theorem equal_refl {d : Ds} (h : formed uv d = true) : equal uv d d = true := by
  rw [formed_iff, callab_iff, callab_iff] at h
  obtain ⟨h1, h2, h3, _⟩ := h
  unfold equal
  simp [alike_refl h1, alike_refl (h2.imp id And.left), alike_refl (h3.imp id And.left)]

theorem Whole.whole {d : Ds} (h : Whole uv d) : whole uv d = true := by
  unfold Dc.whole
  rw [h.kindB, h.kindN, h.complete, equal_refl h.formed]
  cases there d.val <;> rfl

theorem whole_zero {d : Ds} (h : zero d = true) : whole uv d = false := by
  have hf := zero_eq (uv := uv) h
  simp only [Dc.zero, Bool.and_eq_true, beq_iff_eq] at h
  have : kindN uv d = 0 := by
    unfold kindN
    simp [hf, there_absent h.1.1.2, there_absent h.1.2, there_absent h.2, h.1.1.1.1.1]
  simp [Dc.whole, this]

theorem overT_in {a b : Int} (ha : a = 1 ∨ a = 2) (hb : b = 0 ∨ b = 1 ∨ b = 2) : overT a b = 1 ∨ overT a b = 2 := by
  unfold overT; split <;> omega

/-- a whole property over which a descriptor of no other sort is laid is whole -/
theorem over_whole {now d : Ds} (h : Whole uv now) (hk : kindB uv d = true) (hs : kindN uv d = 0 ∨ kindN uv d = kindN uv now) : Whole uv (over now d) := by
  have hf : formed uv d = true := by
    cases hh : formed uv d
    · simp [Dc.kindB, hh] at hk
    · rfl
  have hf' := hf
  rw [formed_iff, callab_iff, callab_iff, tri_iff, tri_iff, tri_iff] at hf
  obtain ⟨hv, hg, hst, hw, he, hc⟩ := hf
  rw [h.kindN] at hs
  simp only [Dc.kindN, hf', Bool.not_true, Bool.false_eq_true, if_false] at hs
  simp only [Dc.kindB, hf', Bool.not_true, Bool.false_eq_true, if_false] at hk
  obtain ⟨ne, nc, ns⟩ := h
  refine ⟨overT_in ne he, overT_in nc hc, ?_⟩
  rcases ns with ⟨h1, h2, h3, h4⟩ | ⟨h1, h2, ⟨h3, h3'⟩, h4, h4'⟩
  · rw [there_good h1] at hs
    have hgs : there d.get = false ∧ there d.set = false := by
      split at hk
      · simpa using hk
      · rename_i hn
        rw [if_neg hn] at hs
        split at hs
        · simp at hs
        · rename_i ho; simpa using ho
    left
    refine ⟨?_, ?_, ?_, overT_in h4 hw⟩
    · simp only [over, overV]
      rcases hv with h | h
      · simp [there_absent h, h1]
      · simp [there_good h, h]
    · simp [over, overV, hgs.1, h2]
    · simp [over, overV, hgs.2, h3]
  · rw [there_absent h1] at hs
    have hn : ¬ ((there d.val || d.w != 0) = true) := by
      intro hn
      rw [if_pos hn] at hs
      simp at hs
    simp only [Bool.or_eq_true, not_or, Bool.not_eq_true, bne_eq_false_iff_eq] at hn
    right
    refine ⟨by simp [over, overV, hn.1, h1], by simp [over, overT, hn.2, h2], ?_, ?_⟩
    · simp only [over, overV]
      rcases hg with h | ⟨h, h'⟩
      · simp [there_absent h, h3, h3']
      · simp [there_good h, h, h']
    · simp only [over, overV]
      rcases hst with h | ⟨h, h'⟩
      · simp [there_absent h, h4, h4']
      · simp [there_good h, h, h']

theorem formed_with {d : Ds} (h : kindB uv d = true) {e c : Int} (he : tri e = true) (hc : tri c = true) : kindB uv { d with e := e, c := c } = true := by
  have hf : formed uv d = true := by
    cases hh : formed uv d
    · simp [Dc.kindB, hh] at h
    · rfl
  have hf2 : formed uv { d with e := e, c := c } = true := by
    rw [formed_iff] at hf ⊢
    exact ⟨hf.1, hf.2.1, hf.2.2.1, hf.2.2.2.1, he, hc⟩
  simp only [Dc.kindB, hf, hf2, Bool.not_true, Bool.false_eq_true, if_false] at h ⊢
  exact h

theorem fillT_tri {t b : Int} (ht : tri t = true) (hb : tri b = true) : tri (fillT t b) = true := by unfold fillT; split <;> assumption

/-- what a property becomes is whole -/
theorem apply_whole {ext : Bool} {now d : Ds} (hn : zero now = true ∨ Whole uv now) (hk : kindB uv d = true) (ho : (apply uv ext now d).2 = true) : Whole uv (apply uv ext now d).1 := by
  have hf : formed uv d = true := by
    cases hh : formed uv d
    · simp [Dc.kindB, hh] at hk
    · rfl
  unfold apply at ho ⊢
  rcases hn with hz | hw
  · rw [if_pos hz] at ho ⊢
    cases ext
    · simp at ho
    · exact complete_whole hk
  · have hz : ¬ zero now = true := by rw [hw.zero]; simp
    rw [if_neg hz] at ho ⊢
    split
    · rename_i hb; rw [if_pos hb] at ho; simp at ho
    · split
      · refine complete_whole (formed_with hk ?_ ?_)
        · exact fillT_tri (formed_iff.1 hf).2.2.2.2.1 (tri_iff.2 (by have := hw.e; omega))
        · exact fillT_tri (formed_iff.1 hf).2.2.2.2.2 (tri_iff.2 (by have := hw.c; omega))
      · rename_i hs
        refine over_whole hw hk ?_
        by_cases h0 : kindN uv d = 0
        · exact .inl h0
        · exact .inr (Decidable.byContradiction fun h => hs ⟨h0, h⟩)

/-- a property that does not stand is defined on an object that is open -/
theorem apply_new {now d : Ds} (hz : zero now = true) : apply uv true now d = (complete uv d, true) := by simp [apply, hz]

def sealD : Ds := { d0 with c := 1 }
def freezeD : Ds := { d0 with w := 1, c := 1 }

theorem there_v0 : there v0 = false := rfl
theorem absent_v0 : absent v0 = true := by simp [absent, v0, isE, ByteArray.size_empty]
theorem formed_seal : formed uv sealD = true := by
  rw [formed_iff, callab_iff, callab_iff]
  exact ⟨.inl absent_v0, .inl absent_v0, .inl absent_v0, by decide, by decide, by decide⟩
theorem formed_freeze : formed uv freezeD = true := by
  rw [formed_iff, callab_iff, callab_iff]
  exact ⟨.inl absent_v0, .inl absent_v0, .inl absent_v0, by decide, by decide, by decide⟩
theorem kindN_seal : kindN uv sealD = 0 := by simp [kindN, formed_seal]; simp [sealD, d0, there_v0]
theorem kindN_freeze : kindN uv freezeD = 1 := by simp [kindN, formed_freeze]; simp [freezeD]
theorem kindB_seal : kindB uv sealD = true := by simp [kindB, formed_seal]; simp [sealD, d0, there_v0]
theorem kindB_freeze : kindB uv freezeD = true := by simp [kindB, formed_freeze]; simp [freezeD, d0, there_v0]

theorem apply_seal {now : Ds} (ext : Bool) (h : Whole uv now) : apply uv ext now sealD = ({ now with c := 1 }, true) := by
  have hb : barred uv now sealD = false := by simp [barred, kindN_seal]; simp [sealD, d0]
  simp only [apply, h.zero, hb, kindN_seal, Bool.and_false, Bool.false_eq_true, if_false, ne_eq, not_true_eq_false, false_and]
  simp [over, overV, overT, sealD, d0, there_v0]

theorem apply_freeze {now : Ds} (ext : Bool) (h : Whole uv now) (ht : there now.val = true) : apply uv ext now freezeD = ({ now with w := 1, c := 1 }, true) := by
  have hn : kindN uv now = 1 := by rw [h.kindN, if_pos ht]
  have hb : barred uv now freezeD = false := by simp [barred, kindN_freeze, hn]; simp [freezeD, d0, there_v0]
  simp only [apply, h.zero, hb, kindN_freeze, hn, Bool.and_false, Bool.false_eq_true, if_false, ne_eq, not_true_eq_false, and_false]
  simp [over, overV, overT, freezeD, d0, there_v0]

end Go.Proofs.Dc
