/- Lemmas for this claim, in parts: Nsame. -/
import Derived.Test.YtoalboilghgalaaGreatDoorA07
import Derived.Deep.QuietTactic
import Derived.BigQuiet
/- number.Same, value.Same. -/
namespace Go.Proofs.YtoalboilghgalaaGreatDoor
open Go.RowKit
open Go.Proofs.Dc (V Ds Ky)
attribute [local go_sem] run_store_float
attribute [local go_sem ↓] eql_vv

theorem nan_any (x : Nat) (w : World) : Calls Tryz.prog 253 #[.float .f64 x] w fun e w' => e = .returned (.bool (Fl.fnan x)) ∧ w = w' := by
  go_enter Tryz.func253, Tryz.ntmps253
  go_wp2
  go_ret
  refine ⟨ret_b ?_, rfl⟩
  have h := Fl.feq_self x
  show (!(ford x x)) = Fl.fnan x
  rw [show ford x x = Fl.feq x x from rfl, h, Bool.not_not]

theorem sign_any (x : Nat) (w : World) (hx : x < 2 ^ 64) : Calls Tryz.prog 254 #[.float .f64 x] w fun e w' => e = .returned (.bool (Fl.fneg x)) ∧ w = w' := by
  have hB := fun x w => bits_any x w
  have HX := Lib.hid hx
  clear hx
  go_enter Tryz.func254, Tryz.ntmps254
  go_wp2
  go_ret
  refine ⟨ret_b ?_, rfl⟩
  have h1 := HX.out
  unfold Fl.fneg wrap64
  rw [Bool.eq_iff_iff]
  simp only [decide_eq_true_eq, beq_iff_eq]
  omega

theorem num_same {x y : Nat} (hx : x < 2 ^ 64) (hy : y < 2 ^ 64) :
    Fl.same x y = if Fl.fnan x || Fl.fnan y then Fl.fnan x && Fl.fnan y else ford x y && (Fl.fneg x == Fl.fneg y) := by
  unfold Fl.same
  rw [show ford x y = Fl.feq x y from rfl]
  cases hnx : Fl.fnan x <;> cases hny : Fl.fnan y
  · simp only [Bool.or_self, Bool.false_eq_true, if_false, Bool.and_false, Bool.or_false]
    rw [Bool.eq_iff_iff]
    simp only [Bool.and_eq_true, beq_iff_eq]
    rw [Fl.feq_iff hx hy]
    constructor
    · rintro rfl; exact ⟨⟨hnx, hny, .inl rfl⟩, rfl⟩
    · rintro ⟨⟨_, _, h⟩, hz⟩
      rcases h with h | ⟨h1, h2⟩
      · exact h
      · have e1 := Fl.fneg_word hx
        have e2 := Fl.fneg_word hy
        rw [h1] at e1
        rw [h2] at e2
        rw [e1, e2, hz]
  · by_cases hh : x = y
    · subst hh; rw [hnx] at hny; cases hny
    · simp [hh]
  · by_cases hh : x = y
    · subst hh; rw [hnx] at hny; cases hny
    · simp [hh]
  · simp

set_option maxRecDepth 100000 in
set_option maxHeartbeats 1000000 in
theorem nsame_any (x y : Nat) (w : World) (hx : x < 2 ^ 64) (hy : y < 2 ^ 64) : Calls Tryz.prog 245 #[.float .f64 x, .float .f64 y] w fun e w' => e = .returned (.bool (Fl.same x y)) ∧ w = w' := by
  have hs := num_same hx hy
  have c1 := fun w => nan_any x w
  have c2 := fun w => nan_any y w
  have c3 := fun w => sign_any x w hx
  have c4 := fun w => sign_any y w hy
  unfold ford at hs
  generalize Fl.fnan x = n1 at *
  generalize Fl.fnan y = n2 at *
  generalize Fl.fneg x = n3 at *
  generalize Fl.fneg y = n4 at *
  generalize Fl.same x y = R at *
  have HS := Lib.hid hs
  clear hs hx hy
  cases n1 <;> cases n2
  all_goals
    go_enter Tryz.func245, Tryz.ntmps245
    go_wp2_with (first | (go_at_call 253; refine (c1 _).mono ?_; rintro e w1 ⟨rfl, rfl⟩) | (go_at_call 253; refine (c2 _).mono ?_; rintro e w1 ⟨rfl, rfl⟩) | (go_at_call 254; refine (c3 _).mono ?_; rintro e w1 ⟨rfl, rfl⟩) | (go_at_call 254; refine (c4 _).mono ?_; rintro e w1 ⟨rfl, rfl⟩) | go_in)
  all_goals go_ret
  all_goals refine ⟨ret_b ?_, rfl⟩
  all_goals rw [HS.out]
  all_goals simp_all

theorem isE_empty {s : ByteArray} (h : Dc.isE s = true) : s = ByteArray.empty := by
  unfold Dc.isE at h
  obtain ⟨⟨l⟩⟩ := s
  cases l with
  | nil => rfl
  | cons a b => cases h

/-- a well-formed value, as one of the seven types: its 'open' hands the value back -/
structure Opens (v : V) (T : TypeId) (val : Value) (g : FuncId) : Prop where
  box : inV v = .iface T val
  meth : ∀ w, (method 451 T val "cameo/value.open").run Tryz.prog w = .ok (g, val) w
  ent : ∀ args w, (callFunc g args).run Tryz.prog w = .ok (.enter g args) w
  call : ∀ w, Calls Tryz.prog g #[val] w fun e w' => e = .returned (vAgg v) ∧ Below w.heap.size w w'
  num : v.kind = 4 → ∀ w, (Instr.typeAssert (.iface T val) 154 131 true).run Tryz.prog w = .ok (.tuple #[.float .f64 v.num, .bool true]) w
  other : v.kind ≠ 4 → ∀ w, (Instr.typeAssert (.iface T val) 154 131 true).run Tryz.prog w = .ok (.tuple #[.float .f64 0, .bool false]) w

theorem opens (v : V) (h : Dc.good uvalid v = true) : ∃ T val g, Opens v T val g := by
  obtain ⟨k, c, x, s, i⟩ := v
  simp only [Dc.good, Bool.and_eq_true] at h
  obtain ⟨hv, hp⟩ := h
  have hk : k = 1 ∨ k = 2 ∨ k = 3 ∨ k = 4 ∨ k = 5 ∨ k = 6 ∨ k = 7 := by
    have h := hv
    unfold Dc.vin at h
    dsimp only at h
    split at h
    · omega
    · split at h
      · omega
      · split at h
        · omega
        · simp at h; omega
  have hi : inV ⟨k, c, x, s, i⟩ = boxV ⟨k, c, x, s, i⟩ := by rw [inV, if_pos hv]
  simp only [Dc.plain, Bool.and_eq_true, Bool.or_eq_true, beq_iff_eq, Bool.not_eq_true'] at hp
  obtain ⟨⟨⟨p1, p2⟩, p3⟩, p4⟩ := hp
  rcases hk with h | h | h | h | h | h | h <;> subst h <;> simp at p1 p2 p3 p4
  · subst p1 p3 p4; obtain rfl := isE_empty p2
    exact ⟨_, _, _, hi, open1, enters_of Tryz.func240 (by kernel_rfl) rfl, undef_open, fun h => absurd h (by simp), fun _ _ => by kernel_rfl⟩
  · subst p1 p3 p4; obtain rfl := isE_empty p2
    exact ⟨_, _, _, hi, open2, enters_of Tryz.func52 (by kernel_rfl) rfl, null_open, fun h => absurd h (by simp), fun _ _ => by kernel_rfl⟩
  · subst p3 p4; obtain rfl := isE_empty p2
    exact ⟨_, _, _, hi, open3 _, enters_of Tryz.func291 (by kernel_rfl) rfl, bool_open _, fun h => absurd h (by simp), fun _ _ => by kernel_rfl⟩
  · subst p1 p3; obtain rfl := isE_empty p2
    exact ⟨_, _, _, hi, open4 _, enters_of Tryz.func73 (by kernel_rfl) rfl, num_open _, fun _ _ => by kernel_rfl, fun h => absurd rfl h⟩
  · subst p1 p3 p4
    exact ⟨_, _, _, hi, open5 _, enters_of Tryz.func67 (by kernel_rfl) rfl, str_open _, fun h => absurd h (by simp), fun _ _ => by kernel_rfl⟩
  · subst p1 p4; obtain rfl := isE_empty p2
    exact ⟨_, _, _, hi, open6 _, enters_of Tryz.func292 (by kernel_rfl) rfl, sym_open _, fun h => absurd h (by simp), fun _ _ => by kernel_rfl⟩
  · subst p1 p4; obtain rfl := isE_empty p2
    exact ⟨_, _, _, hi, open7 _, enters_of Tryz.func59 (by kernel_rfl) rfl, ref_open _, fun h => absurd h (by simp), fun _ _ => by kernel_rfl⟩

end Go.Proofs.YtoalboilghgalaaGreatDoor
