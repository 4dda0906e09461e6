/- Lemmas for this claim, in parts: Utf, Valid. -/
import Derived.Test.YtoalboilghgalaaGreatDoorC02
import Derived.WalkLawsBesides
import Derived.WalkSpells
import Derived.Lib.Hide
import Derived.Lib.QuoteLoop
import Derived.Deep.DeepCutAuto
set_option maxRecDepth 100000
set_option maxHeartbeats 4000000
set_option linter.unusedVariables false
set_option linter.unusedSimpArgs false
/- Which bytes are a string: units.Valid. -/
namespace Go.Proofs.YtoalboilghgalaaGreatDoor
open Go.RowKit

def uhi (r : Int) : Bool := decide (55296 ≤ r ∧ r < 56320)
def ulo (r : Int) : Bool := decide (56320 ≤ r ∧ r < 57344)
def isSur3 (x0 x1 x2 : UInt8) : Bool := decide ((x0.toNat : Int) = 237) && decide (160 ≤ (x1.toNat : Int)) && decide ((x1.toNat : Int) ≤ 191) && (bits .and .u8 (x2.toNat : Int) 192 == 128)
def isSur (s : ByteArray) : Bool := decide (3 ≤ s.size) && isSur3 (s.get! 0) (s.get! 1) (s.get! 2)
/-- units.point -/
def upt (s : ByteArray) : Int × Nat :=
  if (Lib.decodeGo s).1 ≠ 65533 ∨ (Lib.decodeGo s).2 = 3 then (((Lib.decodeGo s).1 : Nat), (Lib.decodeGo s).2)
  else if isSur s then (53248 + ((s.get! 1).toNat : Int) % 64 * 64 + ((s.get! 2).toNat : Int) % 64, 3)
  else (0, 0)

theorem hi_any (r : Int) (w : World) : Calls Tryz.prog 68 #[.int .i32 r] w fun e w' => e = .returned (.bool (uhi r)) ∧ w = w' := by
  go_enter Tryz.func68, Tryz.ntmps68
  go_wp2
  all_goals go_ret
  all_goals refine ⟨by unfold uhi; congr 2; simp; omega, rfl⟩

theorem lo_any (r : Int) (w : World) : Calls Tryz.prog 69 #[.int .i32 r] w fun e w' => e = .returned (.bool (ulo r)) ∧ w = w' := by
  go_enter Tryz.func69, Tryz.ntmps69
  go_wp2
  all_goals go_ret
  all_goals refine ⟨by unfold ulo; congr 2; simp; omega, rfl⟩

theorem ret2_eq {a c : Int} {b d : Int} (h : a = c) (h' : b = d) : Ending.returned (.tuple #[.int .i32 a, .int .i64 b]) = .returned (.tuple #[.int .i32 c, .int .i64 d]) := by rw [h, h']

set_option maxRecDepth 100000 in
set_option maxHeartbeats 1000000 in
theorem point_any (s : ByteArray) (w : World) (hT : Tabs w) :
    Calls Tryz.prog 103 #[.string s] w fun e w' => e = .returned (.tuple #[.int .i32 (upt s).1, .int .i64 ((upt s).2 : Nat)]) ∧ Below w.heap.size w w' := by
  have cS := decode_any s w hT
  obtain ⟨R, hR⟩ : ∃ R, (Lib.decodeGo s).1 = R := ⟨_, rfl⟩
  obtain ⟨K, hK⟩ : ∃ K, (Lib.decodeGo s).2 = K := ⟨_, rfl⟩
  have hu : upt s = if R ≠ 65533 ∨ K = 3 then ((R : Int), K) else if isSur s then (53248 + ((s.get! 1).toNat : Int) % 64 * 64 + ((s.get! 2).toNat : Int) % 64, 3) else (0, 0) := by unfold upt; rw [hR, hK]
  rw [hR, hK] at cS
  clear hR hK hT
  by_cases h1 : R ≠ 65533 ∨ K = 3
  · rw [if_pos h1] at hu
    rw [hu]
    clear hu
    by_cases h2 : R = 65533
    · have h3 : K = 3 := by omega
      subst h2 h3
      clear h1
      go_enter Tryz.func103, Tryz.ntmps103
      go_wp2_with (go_at_call 138; refine cS.mono ?_; rintro e w' ⟨rfl, hb⟩)
      go_ret2
      exact ⟨rfl, hb⟩
    · have h4 : ((R : Int) != 65533) = true := by simp; omega
      clear h1
      go_enter Tryz.func103, Tryz.ntmps103
      go_wp2_with (go_at_call 138; refine cS.mono ?_; rintro e w' ⟨rfl, hb⟩)
      go_ret2
      exact ⟨rfl, hb⟩
  · rw [if_neg h1] at hu
    have h2 : R = 65533 := by omega
    have h3 : ¬ K = 3 := by omega
    subst h2
    have h4 : ((K : Int) == 3) = false := by simp; omega
    clear h1 h3
    by_cases hl : 3 ≤ s.size
    · have hz0 : (3 : Int) ≤ (s.size : Int) := by omega
      obtain ⟨x0, hx0⟩ : ∃ x0, s.get! 0 = x0 := ⟨_, rfl⟩
      obtain ⟨x1, hx1⟩ : ∃ x1, s.get! 1 = x1 := ⟨_, rfl⟩
      obtain ⟨x2, hx2⟩ : ∃ x2, s.get! 2 = x2 := ⟨_, rfl⟩
      have hs0 : s[0]'(by omega) = x0 := by rw [← hx0]; exact (Utf8W.get!_of_lt s 0 (by omega)).symm
      have hs1 : s[1]'(by omega) = x1 := by rw [← hx1]; exact (Utf8W.get!_of_lt s 1 (by omega)).symm
      have hs2 : s[2]'(by omega) = x2 := by rw [← hx2]; exact (Utf8W.get!_of_lt s 2 (by omega)).symm
      have hi : isSur s = isSur3 x0 x1 x2 := by simp [isSur, hl, hx0, hx1, hx2]
      rw [hi, hx1, hx2] at hu
      clear hx0 hx1 hx2 hi
      have hb0 := x0.toNat_lt
      have hb1 := x1.toNat_lt
      have hb2 := x2.toNat_lt
      obtain ⟨Y, hY⟩ : ∃ Y, upt s = Y := ⟨_, rfl⟩
      rw [hY] at hu ⊢
      have HY := Lib.hid hu
      clear hu hY
      go_enter Tryz.func103, Tryz.ntmps103
      go_wp2_with (go_at_call 138; refine cS.mono ?_; rintro e w' ⟨rfl, hb⟩)
      all_goals try go_region
      all_goals go_wp2
      all_goals go_ret2
      · exact ⟨by rw [HY.out, if_pos (by simp [isSur3, *])]; rfl, hb.drew⟩
      · exact ⟨by rw [HY.out, if_neg (by simp [isSur3, *])]; rfl, hb⟩
      · exact ⟨by rw [HY.out, if_neg (by simp [isSur3]; omega)]; rfl, hb⟩
      · exact ⟨by rw [HY.out, if_neg (by simp [isSur3]; omega)]; rfl, hb⟩
      · exact ⟨by rw [HY.out, if_neg (by simp [isSur3]; omega)]; rfl, hb⟩
    · have hi : isSur s = false := by simp [isSur, hl]
      rw [hi, if_neg (by simp)] at hu
      have hz0 : ¬ (3 : Int) ≤ (s.size : Int) := by omega
      rw [hu]
      clear hu hi
      go_enter Tryz.func103, Tryz.ntmps103
      go_wp2_with (go_at_call 138; refine cS.mono ?_; rintro e w' ⟨rfl, hb⟩)
      go_ret2
      exact ⟨rfl, hb⟩

theorem upt_le {s : ByteArray} (h : 0 < s.size) : (upt s).2 ≤ s.size := by
  have hd : (Lib.decodeGo s).2 ≤ s.size := by
    unfold Lib.decodeGo; rw [if_neg (by omega)]; exact Lib.width_le s h
  unfold upt
  split
  · exact hd
  · split
    · rename_i hs
      simp only [isSur, Bool.and_eq_true, decide_eq_true_eq] at hs
      exact hs.1
    · exact Nat.zero_le _

/-- units.walk with a yield that always goes on: from a place on, behind a code point -/
def uwalk (s : ByteArray) (i : Nat) (last : Int) : Bool :=
  if _h : i < s.size then
    if _h0 : (upt (s.extract i s.size)).2 = 0 then false
    else if uhi last && ulo (upt (s.extract i s.size)).1 then false
    else uwalk s (i + (upt (s.extract i s.size)).2) (upt (s.extract i s.size)).1
  else true
termination_by s.size - i
decreasing_by omega

/-- units.Valid -/
def uvalid (s : ByteArray) : Bool := uwalk s 0 0

end Go.Proofs.YtoalboilghgalaaGreatDoor

/- units.Valid: its walk. -/
namespace Go.Proofs.YtoalboilghgalaaGreatDoor
open Go.RowKit

theorem uwalk_stop {s : ByteArray} {i : Nat} {l : Int} (h : ¬ i < s.size) : uwalk s i l = true := by rw [uwalk, dif_neg h]
theorem uwalk_bad {s : ByteArray} {i : Nat} {l : Int} (h : i < s.size) (h0 : (upt (s.extract i s.size)).2 = 0) : uwalk s i l = false := by rw [uwalk, dif_pos h, dif_pos h0]
theorem uwalk_pair {s : ByteArray} {i : Nat} {l : Int} (h : i < s.size) (h1 : uhi l = true) (h2 : ulo (upt (s.extract i s.size)).1 = true) : uwalk s i l = false := by
  rw [uwalk, dif_pos h]
  split
  · rfl
  · rw [h1, h2]; rfl
theorem uwalk_on {s : ByteArray} {i : Nat} {l : Int} (h : i < s.size) (h0 : ¬ (upt (s.extract i s.size)).2 = 0) (h1 : (uhi l && ulo (upt (s.extract i s.size)).1) = false) : uwalk s i l = uwalk s (i + (upt (s.extract i s.size)).2) (upt (s.extract i s.size)).1 := by
  rw [uwalk, dif_pos h, dif_neg h0, h1]; rfl

theorem ret_b {a b : Bool} (h : a = b) : Ending.returned (.bool a) = .returned (.bool b) := by rw [h]
theorem more {w wr w1 : World} (h : Below w.heap.size w wr) (hb : Below wr.heap.size wr w1) : Below w.heap.size w w1 := h.trans (hb.mono h.size)

set_option maxRecDepth 100000 in
set_option maxHeartbeats 1000000 in
theorem walk_valid (s : ByteArray) (w : World) (hT : Tabs w) (hs : s.size ≤ 4611686018427387904) :
    Calls Tryz.prog 53 #[.string s, .func (.func 54) #[] #[]] w fun e w' => e = .returned (.bool (uvalid s)) ∧ Below w.heap.size w w' := by
  have HT := Lib.hid hT
  have HS := Lib.hid hs
  clear hT hs
  obtain ⟨Y, hY⟩ : ∃ Y, uvalid s = Y := ⟨_, rfl⟩
  rw [hY]
  have HY := Lib.hid hY
  clear hY
  go_enter Tryz.func53, Tryz.ntmps53
  go_wp2_with fail
  go_loopw [5, 6] (fun l i wr => ∃ (k : Nat) (r : Int), k ≤ s.size ∧ l = .int .i32 r ∧ i = .int .i64 k ∧ Y = uwalk s k r ∧ Below w.heap.size w wr) (fun l i wr => s.size - (intOf i).toNat)
  case atStart => exact ⟨0, 0, Nat.zero_le _, rfl, rfl, HY.out.symm, Below.refl _ _⟩
  case round =>
    obtain ⟨k, r, hk, rfl, rfl, hv, hB⟩ := hrel
    have HV := Lib.hid hv
    have HB := Lib.hid hB
    clear hv hB
    by_cases hlt : k < s.size
    · obtain ⟨p, hp⟩ : ∃ p, upt (s.extract k s.size) = p := ⟨_, rfl⟩
      have cP := point_any (s.extract k s.size) wr (HT.out.below HB.out)
      have hle : p.2 ≤ s.size - k := by
        have := upt_le (s := s.extract k s.size) (by simp; omega)
        rw [hp] at this; simpa using this
      rw [hp] at cP
      obtain ⟨rn, n⟩ := p
      have cH := hi_any r
      have cL := lo_any rn
      have hHV := uwalk_on (l := r) hlt
      have hHB := uwalk_bad (l := r) hlt
      have hHP := uwalk_pair (l := r) hlt
      rw [hp] at hHV hHB hHP
      have H1 := Lib.hid hHV
      have H2 := Lib.hid hHB
      have H3 := Lib.hid hHP
      have HP := Lib.hid hp
      have HL := Lib.hid hle
      clear hHV hHB hHP hp hle
      dsimp only at cP
      go_wp2_with (first | (go_at_call 103; refine cP.mono ?_; rintro e w1 ⟨rfl, hb⟩) | (go_at_call 68; refine (cH _).mono ?_; rintro e w1 ⟨rfl, rfl⟩) | (go_at_call 69; refine (cL _).mono ?_; rintro e w1 ⟨rfl, rfl⟩) | go_in)
      · go_ret
        have hn : n = 0 := by assumption
        exact ⟨ret_b (by rw [HV.out, H2.out hn]), more HB.out hb⟩
      · go_ret
        have h1 : ¬ n = 0 := by assumption
        have h2 : uhi r = true := by assumption
        have h3 : ((n : Int) == 0) = true ∨ ulo rn = true := by assumption
        have h4 : ulo rn = true := by
          rcases h3 with h | h
          · exact absurd h (by simp; omega)
          · exact h
        exact ⟨ret_b (by rw [HV.out, H3.out h2 h4]), more HB.out hb⟩
      · have h1 : ¬ n = 0 := by assumption
        have h3 : ((n : Int) == 0) = false ∧ ulo rn = false := by assumption
        have h5 : n ≤ s.size - k := HL.out
        have h6 := HS.out
        have h7 : wrap64 ((k : Int) + n) = ((k + n : Nat) : Int) := by rw [show wrap64 ((k : Int) + n) = (k : Int) + n by unfold wrap64; omega]; simp
        refine ⟨⟨k + n, rn, by omega, rfl, by rw [h7], ?_, more HB.out hb⟩, ?_⟩
        · rw [HV.out, H1.out h1 (by rw [h3.2]; simp)]
        · rw [h7]; simp [intOf]; omega
      · have h1 : ¬ n = 0 := by assumption
        have h3 : ¬ uhi r = true := by assumption
        have h5 : n ≤ s.size - k := HL.out
        have h6 := HS.out
        have h7 : wrap64 ((k : Int) + n) = ((k + n : Nat) : Int) := by rw [show wrap64 ((k : Int) + n) = (k : Int) + n by unfold wrap64; omega]; simp
        refine ⟨⟨k + n, rn, by omega, rfl, by rw [h7], ?_, more HB.out hb⟩, ?_⟩
        · rw [HV.out, H1.out h1 (by simp at h3; rw [h3]; simp)]
        · rw [h7]; simp [intOf]; omega
    · have hge : ¬ ((k : Int) < (s.size : Int)) := by omega
      go_wp2
      go_ret
      exact ⟨ret_b (by rw [HV.out, uwalk_stop hlt]), HB.out⟩
theorem valid_any (s : ByteArray) (w : World) (hT : Tabs w) (hs : s.size ≤ 4611686018427387904) :
    Calls Tryz.prog 12 #[.string s] w fun e w' => e = .returned (.bool (uvalid s)) ∧ Below w.heap.size w w' := by
  have c := walk_valid s w hT hs
  generalize uvalid s = Y at c ⊢
  go_enter Tryz.func12, Tryz.ntmps12
  go_wp2_with (go_at_call 53; refine c.mono ?_; rintro e w' ⟨rfl, hb⟩)
  go_ret
  exact ⟨rfl, hb⟩

end Go.Proofs.YtoalboilghgalaaGreatDoor
