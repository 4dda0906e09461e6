/- Lemmas for this claim, in parts: Nsame, Same. -/
import Derived.Test.YtoalboilghgalaaGreatDoorC07
import Derived.Deep.QuietTactic
import Derived.BigQuiet
import Derived.Deep.RegionWith
import Derived.Shelf.Abstract
set_option maxRecDepth 100000
set_option maxHeartbeats 4000000
set_option linter.unusedVariables false
set_option linter.unusedSimpArgs false
/- number.Same, value.Same. -/
namespace Go.Proofs.YtoalboilghgalaaGreatDoor
open Go.RowKit
open Go.Proofs.Dc (V Ds Ky)
attribute [local go_sem] run_store_float
attribute [local go_sem ↓] eql_vv

theorem nan_any (x : Nat) (w : World) : Calls Tryz.prog 253 #[.float .f64 x] w fun e w' => e = .returned (.bool (Fl.fnan x)) ∧ w = w' := by
  go_enter Tryz.func253, Tryz.ntmps253
  go_wp2
  go_ret
  refine ⟨ret_b ?_, rfl⟩
  have h := Fl.feq_self x
  show (!(ford x x)) = Fl.fnan x
  rw [show ford x x = Fl.feq x x from rfl, h, Bool.not_not]

theorem sign_any (x : Nat) (w : World) (hx : x < 2 ^ 64) : Calls Tryz.prog 254 #[.float .f64 x] w fun e w' => e = .returned (.bool (Fl.fneg x)) ∧ w = w' := by
  have hB := fun x w => bits_any x w
  have HX := Lib.hid hx
  clear hx
  go_enter Tryz.func254, Tryz.ntmps254
  go_wp2
  go_ret
  refine ⟨ret_b ?_, rfl⟩
  have h1 := HX.out
  unfold Fl.fneg wrap64
  rw [Bool.eq_iff_iff]
  simp only [decide_eq_true_eq, beq_iff_eq]
  omega

theorem num_same {x y : Nat} (hx : x < 2 ^ 64) (hy : y < 2 ^ 64) :
    Fl.same x y = if Fl.fnan x || Fl.fnan y then Fl.fnan x && Fl.fnan y else ford x y && (Fl.fneg x == Fl.fneg y) := by
  unfold Fl.same
  rw [show ford x y = Fl.feq x y from rfl]
  cases hnx : Fl.fnan x <;> cases hny : Fl.fnan y
  · simp only [Bool.or_self, Bool.false_eq_true, if_false, Bool.and_false, Bool.or_false]
    rw [Bool.eq_iff_iff]
    simp only [Bool.and_eq_true, beq_iff_eq]
    rw [Fl.feq_iff hx hy]
    constructor
    · rintro rfl; exact ⟨⟨hnx, hny, .inl rfl⟩, rfl⟩
    · rintro ⟨⟨_, _, h⟩, hz⟩
      rcases h with h | ⟨h1, h2⟩
      · exact h
      · have e1 := Fl.fneg_word hx
        have e2 := Fl.fneg_word hy
        rw [h1] at e1
        rw [h2] at e2
        rw [e1, e2, hz]
  · by_cases hh : x = y
    · subst hh; rw [hnx] at hny; cases hny
    · simp [hh]
  · by_cases hh : x = y
    · subst hh; rw [hnx] at hny; cases hny
    · simp [hh]
  · simp

set_option maxRecDepth 100000 in
set_option maxHeartbeats 1000000 in
theorem nsame_any (x y : Nat) (w : World) (hx : x < 2 ^ 64) (hy : y < 2 ^ 64) : Calls Tryz.prog 245 #[.float .f64 x, .float .f64 y] w fun e w' => e = .returned (.bool (Fl.same x y)) ∧ w = w' := by
  have hs := num_same hx hy
  have c1 := fun w => nan_any x w
  have c2 := fun w => nan_any y w
  have c3 := fun w => sign_any x w hx
  have c4 := fun w => sign_any y w hy
  unfold ford at hs
  generalize Fl.fnan x = n1 at *
  generalize Fl.fnan y = n2 at *
  generalize Fl.fneg x = n3 at *
  generalize Fl.fneg y = n4 at *
  generalize Fl.same x y = R at *
  have HS := Lib.hid hs
  clear hs hx hy
  cases n1 <;> cases n2
  all_goals
    go_enter Tryz.func245, Tryz.ntmps245
    go_wp2_with (first | (go_at_call 253; refine (c1 _).mono ?_; rintro e w1 ⟨rfl, rfl⟩) | (go_at_call 253; refine (c2 _).mono ?_; rintro e w1 ⟨rfl, rfl⟩) | (go_at_call 254; refine (c3 _).mono ?_; rintro e w1 ⟨rfl, rfl⟩) | (go_at_call 254; refine (c4 _).mono ?_; rintro e w1 ⟨rfl, rfl⟩) | go_in)
  all_goals go_ret
  all_goals refine ⟨ret_b ?_, rfl⟩
  all_goals rw [HS.out]
  all_goals simp_all

theorem isE_empty {s : ByteArray} (h : Dc.isE s = true) : s = ByteArray.empty := by
  unfold Dc.isE at h
  obtain ⟨⟨l⟩⟩ := s
  cases l with
  | nil => rfl
  | cons a b => cases h

/-- a well-formed value, as one of the seven types: its 'open' hands the value back -/
structure Opens (v : V) (T : TypeId) (val : Value) (g : FuncId) : Prop where
  box : inV v = .iface T val
  meth : ∀ w, (method 451 T val "cameo/value.open").run Tryz.prog w = .ok (g, val) w
  ent : ∀ args w, (callFunc g args).run Tryz.prog w = .ok (.enter g args) w
  call : ∀ w, Calls Tryz.prog g #[val] w fun e w' => e = .returned (vAgg v) ∧ Below w.heap.size w w'
  num : v.kind = 4 → ∀ w, (Instr.typeAssert (.iface T val) 154 131 true).run Tryz.prog w = .ok (.tuple #[.float .f64 v.num, .bool true]) w
  other : v.kind ≠ 4 → ∀ w, (Instr.typeAssert (.iface T val) 154 131 true).run Tryz.prog w = .ok (.tuple #[.float .f64 0, .bool false]) w

theorem opens (v : V) (h : Dc.good uvalid v = true) : ∃ T val g, Opens v T val g := by
  obtain ⟨k, c, x, s, i⟩ := v
  simp only [Dc.good, Bool.and_eq_true] at h
  obtain ⟨hv, hp⟩ := h
  have hk : k = 1 ∨ k = 2 ∨ k = 3 ∨ k = 4 ∨ k = 5 ∨ k = 6 ∨ k = 7 := by
    have h := hv
    unfold Dc.vin at h
    dsimp only at h
    split at h
    · omega
    · split at h
      · omega
      · split at h
        · omega
        · simp at h; omega
  have hi : inV ⟨k, c, x, s, i⟩ = boxV ⟨k, c, x, s, i⟩ := by rw [inV, if_pos hv]
  simp only [Dc.plain, Bool.and_eq_true, Bool.or_eq_true, beq_iff_eq, Bool.not_eq_true'] at hp
  obtain ⟨⟨⟨p1, p2⟩, p3⟩, p4⟩ := hp
  rcases hk with h | h | h | h | h | h | h <;> subst h <;> simp at p1 p2 p3 p4
  · subst p1 p3 p4; obtain rfl := isE_empty p2
    exact ⟨_, _, _, hi, open1, enters_of Tryz.func240 (by kernel_rfl) rfl, undef_open, fun h => absurd h (by simp), fun _ _ => by kernel_rfl⟩
  · subst p1 p3 p4; obtain rfl := isE_empty p2
    exact ⟨_, _, _, hi, open2, enters_of Tryz.func52 (by kernel_rfl) rfl, null_open, fun h => absurd h (by simp), fun _ _ => by kernel_rfl⟩
  · subst p3 p4; obtain rfl := isE_empty p2
    exact ⟨_, _, _, hi, open3 _, enters_of Tryz.func291 (by kernel_rfl) rfl, bool_open _, fun h => absurd h (by simp), fun _ _ => by kernel_rfl⟩
  · subst p1 p3; obtain rfl := isE_empty p2
    exact ⟨_, _, _, hi, open4 _, enters_of Tryz.func73 (by kernel_rfl) rfl, num_open _, fun _ _ => by kernel_rfl, fun h => absurd rfl h⟩
  · subst p1 p3 p4
    exact ⟨_, _, _, hi, open5 _, enters_of Tryz.func67 (by kernel_rfl) rfl, str_open _, fun h => absurd h (by simp), fun _ _ => by kernel_rfl⟩
  · subst p1 p4; obtain rfl := isE_empty p2
    exact ⟨_, _, _, hi, open6 _, enters_of Tryz.func292 (by kernel_rfl) rfl, sym_open _, fun h => absurd h (by simp), fun _ _ => by kernel_rfl⟩
  · subst p1 p4; obtain rfl := isE_empty p2
    exact ⟨_, _, _, hi, open7 _, enters_of Tryz.func59 (by kernel_rfl) rfl, ref_open _, fun h => absurd h (by simp), fun _ _ => by kernel_rfl⟩

end Go.Proofs.YtoalboilghgalaaGreatDoor

/- value.Same. -/
namespace Go.Proofs.YtoalboilghgalaaGreatDoor
open Go.RowKit
open Go.Proofs.Dc (V Ds Ky)
attribute [local go_sem] run_store_float
attribute [local go_sem ↓] eql_vv

theorem ret_bi {a c : Bool} {b d : Int} (h : a = c) (h' : b = d) : Ending.returned (.tuple #[.bool a, .int .i64 b]) = .returned (.tuple #[.bool c, .int .i64 d]) := by rw [h, h']
theorem two (w : World) (o o' : Obj) : Below w.heap.size w ((w.alloc o).alloc o') := ((Below.refl _ _).alloc (Nat.le_refl _) o).alloc (by simp) o'

theorem box_cell2 {w w1 : World} {o : Obj} {C : Array Value} {t : TypeId} (hb : Below ((w.alloc o).alloc (.cells C t)).heap.size ((w.alloc o).alloc (.cells C t)) w1) (j : Nat) : w1.cell? ⟨w.heap.size + 1, j, none⟩ = C[j]? := by
  have h := box_cell (w := w.alloc o) hb j
  rw [World.size_alloc] at h
  exact h

theorem same_bad {a b : V} (h : Dc.good uvalid a = false ∨ Dc.good uvalid b = false) : Dc.same uvalid a b = false := by
  unfold Dc.same; rcases h with h | h <;> simp [h]
theorem plain_of_good {v : V} (h : Dc.good uvalid v = true) : Dc.plain v = true := by
  simp only [Dc.good, Bool.and_eq_true] at h; exact h.2
theorem same_num {a b : V} (ha : Dc.good uvalid a = true) (hb : Dc.good uvalid b = true) (h4 : a.kind = 4) : Dc.same uvalid a b = if b.kind = 4 then Fl.same a.num b.num else false := by
  unfold Dc.same
  rw [ha, hb, if_pos h4, h4]
  by_cases h : b.kind = 4
  · rw [if_pos h, h]; rfl
  · rw [if_neg h]; simp; intro h'; exact absurd h'.symm h
theorem ford_refl : ford 0 0 = true := by decide +kernel
theorem num_of_plain {v : V} (h : Dc.plain v = true) (h4 : v.kind ≠ 4) : v.num = 0 := by
  simp only [Dc.plain, Bool.and_eq_true, Bool.or_eq_true, beq_iff_eq] at h
  exact h.2.resolve_left h4
theorem same_other {a b : V} (ha : Dc.good uvalid a = true) (hb : Dc.good uvalid b = true) (h4 : a.kind ≠ 4) : Dc.same uvalid a b = veq a b := by
  unfold Dc.same veq Dc.seq
  rw [ha, hb, if_neg h4]
  by_cases hk : a.kind = b.kind
  · have h0 := num_of_plain (plain_of_good ha) h4
    have h1 := num_of_plain (plain_of_good hb) (by rw [← hk]; exact h4)
    rw [h0, h1, ford_refl, hk]
    simp [Bool.and_assoc]
  · have : (a.kind == b.kind) = false := by simpa using hk
    rw [this]; simp

set_option maxRecDepth 100000 in
set_option maxHeartbeats 400000 in
theorem held_any (a b : V) (w : World) (hT : Tabs w) (ha : a.num < 2 ^ 64) (hb : b.num < 2 ^ 64) : Calls Tryz.prog 244 #[vAgg a, vAgg b, .func (.func 245) #[] #[]] w fun e w' =>
    e = .returned (.tuple #[.bool (Dc.same uvalid a b), .int .i64 (if Dc.good uvalid a && Dc.good uvalid b then 0 else 5)]) ∧ Below w.heap.size w w' := by
  have g1 := fun W' (h : Below w.heap.size w W') => good_any a W' (hT.below h) ha
  have g2 := fun W' (h : Below w.heap.size w W') => good_any b W' (hT.below h) hb
  clear hT
  cases hga : Dc.good uvalid a
  · rw [same_bad (.inl hga)]
    simp only [hga] at g1
    generalize inV a = I1 at g1
    generalize inV b = I2 at g2
    generalize Dc.good uvalid b = G2 at g2
    clear ha hb hga
    obtain ⟨k, c, x, s, i⟩ := a
    obtain ⟨k', c', x', s', i'⟩ := b
    go_enter Tryz.func244, Tryz.ntmps244
    go_wp2_with (first | (go_at_call_of 88 k; refine (g1 _ (two _ _ _)).mono ?_; rintro e w1 ⟨rfl, hb1⟩; have hc0 := box_cell2 hb1 0; have hc1 := box_cell2 hb1 1; have hc2 := box_cell2 hb1 2; have hc3 := box_cell2 hb1 3; have hc4 := box_cell2 hb1 4) | (go_at_call_of 88 k'; refine (g2 _ (more (two _ _ _) hb1)).mono ?_; rintro e w2 ⟨rfl, hb2⟩))
    go_ret2
    exact ⟨rfl, more (more (two _ _ _) hb1) hb2⟩
  · cases hgb : Dc.good uvalid b
    · rw [same_bad (.inr hgb)]
      simp only [hga] at g1
      simp only [hgb] at g2
      generalize inV a = I1 at g1
      generalize inV b = I2 at g2
      clear ha hb hga hgb
      obtain ⟨k, c, x, s, i⟩ := a
      obtain ⟨k', c', x', s', i'⟩ := b
      go_enter Tryz.func244, Tryz.ntmps244
      go_wp2_with (first | (go_at_call_of 88 k; refine (g1 _ (two _ _ _)).mono ?_; rintro e w1 ⟨rfl, hb1⟩; have hc0 := box_cell2 hb1 0; have hc1 := box_cell2 hb1 1; have hc2 := box_cell2 hb1 2; have hc3 := box_cell2 hb1 3; have hc4 := box_cell2 hb1 4) | (go_at_call_of 88 k'; refine (g2 _ (more (two _ _ _) hb1)).mono ?_; rintro e w2 ⟨rfl, hb2⟩))
      go_ret2
      exact ⟨rfl, more (more (two _ _ _) hb1) hb2⟩
    · obtain ⟨T, val, g, O⟩ := opens a hga
      obtain ⟨T', val', g', O'⟩ := opens b hgb
      simp only [O.box, hga] at g1
      simp only [O'.box, hgb] at g2
      by_cases h4 : a.kind = 4
      · rw [same_num hga hgb h4]
        have t1 := O.num h4
        by_cases h5 : b.kind = 4
        · rw [if_pos h5]
          have t2 := O'.num h5
          have cn := fun w => nsame_any a.num b.num w ha hb
          generalize Fl.same a.num b.num = R at *
          clear O O' hga hgb hb ha h4 h5
          obtain ⟨k, c, x, s, i⟩ := a
          obtain ⟨k', c', x', s', i'⟩ := b
          dsimp only at cn t1 t2
          go_enter Tryz.func244, Tryz.ntmps244
          go_wp2_with (first | (go_at_call_of 88 k; refine (g1 _ (two _ _ _)).mono ?_; rintro e w1 ⟨rfl, hb1⟩; have hc0 := box_cell2 hb1 0; have hc1 := box_cell2 hb1 1; have hc2 := box_cell2 hb1 2; have hc3 := box_cell2 hb1 3; have hc4 := box_cell2 hb1 4) | (go_at_call_of 88 k'; refine (g2 _ (more (two _ _ _) hb1)).mono ?_; rintro e w2 ⟨rfl, hb2⟩) | (go_at_call 245; refine (cn _).mono ?_; rintro e w3 ⟨rfl, rfl⟩))
          go_ret2
          exact ⟨rfl, more (more (two _ _ _) hb1) hb2⟩
        · rw [if_neg h5]
          have t2 := O'.other h5
          clear O O' hga hgb hb ha h4 h5
          obtain ⟨k, c, x, s, i⟩ := a
          obtain ⟨k', c', x', s', i'⟩ := b
          dsimp only at t1 t2
          go_enter Tryz.func244, Tryz.ntmps244
          go_wp2_with (first | (go_at_call_of 88 k; refine (g1 _ (two _ _ _)).mono ?_; rintro e w1 ⟨rfl, hb1⟩; have hc0 := box_cell2 hb1 0; have hc1 := box_cell2 hb1 1; have hc2 := box_cell2 hb1 2; have hc3 := box_cell2 hb1 3; have hc4 := box_cell2 hb1 4) | (go_at_call_of 88 k'; refine (g2 _ (more (two _ _ _) hb1)).mono ?_; rintro e w2 ⟨rfl, hb2⟩))
          go_ret2
          exact ⟨rfl, more (more (two _ _ _) hb1) hb2⟩
      · rw [same_other hga hgb h4]
        have t1 := O.other h4
        have m1 := O.meth
        have m2 := O'.meth
        have n1 := O.ent
        have n2 := O'.ent
        have o1 := O.call
        have o2 := O'.call
        generalize hR : veq a b = R
        have HR := Lib.hid hR
        clear O O' hR h4 hga hgb hb ha
        obtain ⟨k, c, x, s, i⟩ := a
        obtain ⟨k', c', x', s', i'⟩ := b
        go_enter Tryz.func244, Tryz.ntmps244
        go_wp2_with (first | (go_at_call_of 88 k; refine (g1 _ (two _ _ _)).mono ?_; rintro e w1 ⟨rfl, hb1⟩; have hc0 := box_cell2 hb1 0; have hc1 := box_cell2 hb1 1; have hc2 := box_cell2 hb1 2; have hc3 := box_cell2 hb1 3; have hc4 := box_cell2 hb1 4) | (go_at_call_of 88 k'; refine (g2 _ (more (two _ _ _) hb1)).mono ?_; rintro e w2 ⟨rfl, hb2⟩) | (go_at_fn g; refine (o1 _).mono ?_; rintro e w3 ⟨rfl, hb3⟩) | (go_at_fn g'; refine (o2 _).mono ?_; rintro e w4 ⟨rfl, hb4⟩))
        go_ret2
        exact ⟨ret_bi HR.out rfl, more (more (more (more (two _ _ _) hb1) hb2) hb3) hb4⟩

set_option maxRecDepth 100000 in
theorem same_any (a b : V) (w : World) (hT : Tabs w) (ha : a.num < 2 ^ 64) (hb : b.num < 2 ^ 64) : Calls Tryz.prog 230 #[vAgg a, vAgg b] w fun e w' =>
    e = .returned (.tuple #[.bool (Dc.same uvalid a b), .int .i64 (if Dc.good uvalid a && Dc.good uvalid b then 0 else 5)]) ∧ Below w.heap.size w w' := by
  have c0 := held_any a b ((w.alloc (.cells (vCells a).toArray 36)).alloc (.cells (vCells b).toArray 36)) (hT.below (two _ _ _)) ha hb
  generalize Dc.same uvalid a b = R at *
  generalize (if Dc.good uvalid a && Dc.good uvalid b then (0 : Int) else 5) = Q at *
  clear hT ha hb
  obtain ⟨k, c, x, s, i⟩ := a
  obtain ⟨k', c', x', s', i'⟩ := b
  go_enter Tryz.func230, Tryz.ntmps230
  go_wp2_with (first | (go_at_call 244; refine c0.mono ?_; rintro e w1 ⟨rfl, hb1⟩))
  go_ret2
  exact ⟨rfl, more (two _ _ _) hb1⟩

end Go.Proofs.YtoalboilghgalaaGreatDoor
