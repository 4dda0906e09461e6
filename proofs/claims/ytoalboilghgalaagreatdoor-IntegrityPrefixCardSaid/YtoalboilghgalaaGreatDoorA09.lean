/- Lemmas for this claim, in parts: Same. -/
import Derived.Test.YtoalboilghgalaaGreatDoorA08
import Derived.Deep.RegionWith
import Derived.Shelf.Abstract
/- value.Same. -/
namespace Go.Proofs.YtoalboilghgalaaGreatDoor
open Go.RowKit
open Go.Proofs.Dc (V Ds Ky)
attribute [local go_sem] run_store_float
attribute [local go_sem ↓] eql_vv

theorem ret_bi {a c : Bool} {b d : Int} (h : a = c) (h' : b = d) : Ending.returned (.tuple #[.bool a, .int .i64 b]) = .returned (.tuple #[.bool c, .int .i64 d]) := by rw [h, h']
theorem two (w : World) (o o' : Obj) : Below w.heap.size w ((w.alloc o).alloc o') := ((Below.refl _ _).alloc (Nat.le_refl _) o).alloc (by simp) o'

theorem box_cell2 {w w1 : World} {o : Obj} {C : Array Value} {t : TypeId} (hb : Below ((w.alloc o).alloc (.cells C t)).heap.size ((w.alloc o).alloc (.cells C t)) w1) (j : Nat) : w1.cell? ⟨w.heap.size + 1, j, none⟩ = C[j]? := by
  have h := box_cell (w := w.alloc o) hb j
  rw [World.size_alloc] at h
  exact h

theorem same_bad {a b : V} (h : Dc.good uvalid a = false ∨ Dc.good uvalid b = false) : Dc.same uvalid a b = false := by
  unfold Dc.same; rcases h with h | h <;> simp [h]
theorem plain_of_good {v : V} (h : Dc.good uvalid v = true) : Dc.plain v = true := by
  simp only [Dc.good, Bool.and_eq_true] at h; exact h.2
theorem same_num {a b : V} (ha : Dc.good uvalid a = true) (hb : Dc.good uvalid b = true) (h4 : a.kind = 4) : Dc.same uvalid a b = if b.kind = 4 then Fl.same a.num b.num else false := by
  unfold Dc.same
  rw [ha, hb, if_pos h4, h4]
  by_cases h : b.kind = 4
  · rw [if_pos h, h]; rfl
  · rw [if_neg h]; simp; intro h'; exact absurd h'.symm h
theorem ford_refl : ford 0 0 = true := by decide +kernel
theorem num_of_plain {v : V} (h : Dc.plain v = true) (h4 : v.kind ≠ 4) : v.num = 0 := by
  simp only [Dc.plain, Bool.and_eq_true, Bool.or_eq_true, beq_iff_eq] at h
  exact h.2.resolve_left h4
theorem same_other {a b : V} (ha : Dc.good uvalid a = true) (hb : Dc.good uvalid b = true) (h4 : a.kind ≠ 4) : Dc.same uvalid a b = veq a b := by
  unfold Dc.same veq Dc.seq
  rw [ha, hb, if_neg h4]
  by_cases hk : a.kind = b.kind
  · have h0 := num_of_plain (plain_of_good ha) h4
    have h1 := num_of_plain (plain_of_good hb) (by rw [← hk]; exact h4)
    rw [h0, h1, ford_refl, hk]
    simp [Bool.and_assoc]
  · have : (a.kind == b.kind) = false := by simpa using hk
    rw [this]; simp

set_option maxRecDepth 100000 in
set_option maxHeartbeats 400000 in
theorem held_any (a b : V) (w : World) (hT : Tabs w) (ha : a.num < 2 ^ 64) (hb : b.num < 2 ^ 64) : Calls Tryz.prog 244 #[vAgg a, vAgg b, .func (.func 245) #[] #[]] w fun e w' =>
    e = .returned (.tuple #[.bool (Dc.same uvalid a b), .int .i64 (if Dc.good uvalid a && Dc.good uvalid b then 0 else 5)]) ∧ Below w.heap.size w w' := by
  have g1 := fun W' (h : Below w.heap.size w W') => good_any a W' (hT.below h) ha
  have g2 := fun W' (h : Below w.heap.size w W') => good_any b W' (hT.below h) hb
  clear hT
  cases hga : Dc.good uvalid a
  · rw [same_bad (.inl hga)]
    simp only [hga] at g1
    generalize inV a = I1 at g1
    generalize inV b = I2 at g2
    generalize Dc.good uvalid b = G2 at g2
    clear ha hb hga
    obtain ⟨k, c, x, s, i⟩ := a
    obtain ⟨k', c', x', s', i'⟩ := b
    go_enter Tryz.func244, Tryz.ntmps244
    go_wp2_with (first | (go_at_call_of 88 k; refine (g1 _ (two _ _ _)).mono ?_; rintro e w1 ⟨rfl, hb1⟩; have hc0 := box_cell2 hb1 0; have hc1 := box_cell2 hb1 1; have hc2 := box_cell2 hb1 2; have hc3 := box_cell2 hb1 3; have hc4 := box_cell2 hb1 4) | (go_at_call_of 88 k'; refine (g2 _ (more (two _ _ _) hb1)).mono ?_; rintro e w2 ⟨rfl, hb2⟩))
    go_ret2
    exact ⟨rfl, more (more (two _ _ _) hb1) hb2⟩
  · cases hgb : Dc.good uvalid b
    · rw [same_bad (.inr hgb)]
      simp only [hga] at g1
      simp only [hgb] at g2
      generalize inV a = I1 at g1
      generalize inV b = I2 at g2
      clear ha hb hga hgb
      obtain ⟨k, c, x, s, i⟩ := a
      obtain ⟨k', c', x', s', i'⟩ := b
      go_enter Tryz.func244, Tryz.ntmps244
      go_wp2_with (first | (go_at_call_of 88 k; refine (g1 _ (two _ _ _)).mono ?_; rintro e w1 ⟨rfl, hb1⟩; have hc0 := box_cell2 hb1 0; have hc1 := box_cell2 hb1 1; have hc2 := box_cell2 hb1 2; have hc3 := box_cell2 hb1 3; have hc4 := box_cell2 hb1 4) | (go_at_call_of 88 k'; refine (g2 _ (more (two _ _ _) hb1)).mono ?_; rintro e w2 ⟨rfl, hb2⟩))
      go_ret2
      exact ⟨rfl, more (more (two _ _ _) hb1) hb2⟩
    · obtain ⟨T, val, g, O⟩ := opens a hga
      obtain ⟨T', val', g', O'⟩ := opens b hgb
      simp only [O.box, hga] at g1
      simp only [O'.box, hgb] at g2
      by_cases h4 : a.kind = 4
      · rw [same_num hga hgb h4]
        have t1 := O.num h4
        by_cases h5 : b.kind = 4
        · rw [if_pos h5]
          have t2 := O'.num h5
          have cn := fun w => nsame_any a.num b.num w ha hb
          generalize Fl.same a.num b.num = R at *
          clear O O' hga hgb hb ha h4 h5
          obtain ⟨k, c, x, s, i⟩ := a
          obtain ⟨k', c', x', s', i'⟩ := b
          dsimp only at cn t1 t2
          go_enter Tryz.func244, Tryz.ntmps244
          go_wp2_with (first | (go_at_call_of 88 k; refine (g1 _ (two _ _ _)).mono ?_; rintro e w1 ⟨rfl, hb1⟩; have hc0 := box_cell2 hb1 0; have hc1 := box_cell2 hb1 1; have hc2 := box_cell2 hb1 2; have hc3 := box_cell2 hb1 3; have hc4 := box_cell2 hb1 4) | (go_at_call_of 88 k'; refine (g2 _ (more (two _ _ _) hb1)).mono ?_; rintro e w2 ⟨rfl, hb2⟩) | (go_at_call 245; refine (cn _).mono ?_; rintro e w3 ⟨rfl, rfl⟩))
          go_ret2
          exact ⟨rfl, more (more (two _ _ _) hb1) hb2⟩
        · rw [if_neg h5]
          have t2 := O'.other h5
          clear O O' hga hgb hb ha h4 h5
          obtain ⟨k, c, x, s, i⟩ := a
          obtain ⟨k', c', x', s', i'⟩ := b
          dsimp only at t1 t2
          go_enter Tryz.func244, Tryz.ntmps244
          go_wp2_with (first | (go_at_call_of 88 k; refine (g1 _ (two _ _ _)).mono ?_; rintro e w1 ⟨rfl, hb1⟩; have hc0 := box_cell2 hb1 0; have hc1 := box_cell2 hb1 1; have hc2 := box_cell2 hb1 2; have hc3 := box_cell2 hb1 3; have hc4 := box_cell2 hb1 4) | (go_at_call_of 88 k'; refine (g2 _ (more (two _ _ _) hb1)).mono ?_; rintro e w2 ⟨rfl, hb2⟩))
          go_ret2
          exact ⟨rfl, more (more (two _ _ _) hb1) hb2⟩
      · rw [same_other hga hgb h4]
        have t1 := O.other h4
        have m1 := O.meth
        have m2 := O'.meth
        have n1 := O.ent
        have n2 := O'.ent
        have o1 := O.call
        have o2 := O'.call
        generalize hR : veq a b = R
        have HR := Lib.hid hR
        clear O O' hR h4 hga hgb hb ha
        obtain ⟨k, c, x, s, i⟩ := a
        obtain ⟨k', c', x', s', i'⟩ := b
        go_enter Tryz.func244, Tryz.ntmps244
        go_wp2_with (first | (go_at_call_of 88 k; refine (g1 _ (two _ _ _)).mono ?_; rintro e w1 ⟨rfl, hb1⟩; have hc0 := box_cell2 hb1 0; have hc1 := box_cell2 hb1 1; have hc2 := box_cell2 hb1 2; have hc3 := box_cell2 hb1 3; have hc4 := box_cell2 hb1 4) | (go_at_call_of 88 k'; refine (g2 _ (more (two _ _ _) hb1)).mono ?_; rintro e w2 ⟨rfl, hb2⟩) | (go_at_fn g; refine (o1 _).mono ?_; rintro e w3 ⟨rfl, hb3⟩) | (go_at_fn g'; refine (o2 _).mono ?_; rintro e w4 ⟨rfl, hb4⟩))
        go_ret2
        exact ⟨ret_bi HR.out rfl, more (more (more (more (two _ _ _) hb1) hb2) hb3) hb4⟩

set_option maxRecDepth 100000 in
theorem same_any (a b : V) (w : World) (hT : Tabs w) (ha : a.num < 2 ^ 64) (hb : b.num < 2 ^ 64) : Calls Tryz.prog 230 #[vAgg a, vAgg b] w fun e w' =>
    e = .returned (.tuple #[.bool (Dc.same uvalid a b), .int .i64 (if Dc.good uvalid a && Dc.good uvalid b then 0 else 5)]) ∧ Below w.heap.size w w' := by
  have c0 := held_any a b ((w.alloc (.cells (vCells a).toArray 36)).alloc (.cells (vCells b).toArray 36)) (hT.below (two _ _ _)) ha hb
  generalize Dc.same uvalid a b = R at *
  generalize (if Dc.good uvalid a && Dc.good uvalid b then (0 : Int) else 5) = Q at *
  clear hT ha hb
  obtain ⟨k, c, x, s, i⟩ := a
  obtain ⟨k', c', x', s', i'⟩ := b
  go_enter Tryz.func230, Tryz.ntmps230
  go_wp2_with (first | (go_at_call 244; refine c0.mono ?_; rintro e w1 ⟨rfl, hb1⟩))
  go_ret2
  exact ⟨rfl, more (two _ _ _) hb1⟩

end Go.Proofs.YtoalboilghgalaaGreatDoor
