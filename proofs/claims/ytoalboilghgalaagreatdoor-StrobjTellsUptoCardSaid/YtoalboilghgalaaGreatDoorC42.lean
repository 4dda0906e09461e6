/- Lemmas for this claim, in parts: Ubad. -/
import Derived.Test.YtoalboilghgalaaGreatDoorC41
import Derived.Test.YtoalboilghgalaaGreatDoorC22
set_option maxRecDepth 100000
set_option maxHeartbeats 4000000
set_option linter.unusedVariables false
set_option linter.unusedSimpArgs false
/- units.Units of bytes that are no string; units.Concat. -/
namespace Go.Proofs.YtoalboilghgalaaGreatDoor
open Go.RowKit
open Go.Proofs.Dc (V Ds Ky)
attribute [local go_sem] run_store_float

attribute [local go_sem] Oper.semAt_some
theorem walk_bad (s : ByteArray) {w0 W : World} {c : Nat} {v : Value} (hT : Tabs w0) (hU : Uni w0 W c v []) (hs : s.size + 2 ≤ 1099511627776) (hV : uvalid s = false) :
    Calls Tryz.prog 53 #[.string s, .func (.func 62) #[] #[.pointer (some ⟨c, 0, none⟩)]] W fun e w' => e = .returned (.bool false) ∧ Grw w0 w' := by
  have HT := Lib.hid hT
  have HS := Lib.hid hs
  have HU0 := Lib.hid hU
  have HV0 := Lib.hid hV
  clear hT hs hU hV
  go_enter Tryz.func53, Tryz.ntmps53
  go_wp2_with fail
  go_loopw [5, 6] (fun l i wr => ∃ (k : Nat) (r : Int) (xs : List Int) (v : Value), k ≤ s.size ∧ l = .int .i32 r ∧ i = .int .i64 k ∧ uwalk s k r = false ∧ xs.length ≤ k ∧ Uni w0 wr c v xs) (fun l i wr => s.size - (intOf i).toNat)
  case atStart => exact ⟨0, 0, [], v, Nat.zero_le _, rfl, rfl, HV0.out, Nat.zero_le _, HU0.out⟩
  case round =>
    obtain ⟨k, r, xs, v, hk, rfl, rfl, hv, hl, hU⟩ := hrel
    have HV := Lib.hid hv
    have HU := Lib.hid hU
    have HL := Lib.hid hl
    clear hv hU hl HU0 HV0
    by_cases hlt : k < s.size
    · have cP := point_g (s.extract k s.size) wr (HT.out.below HU.out.grw.below) (by have := HS.out; simp; omega)
      obtain ⟨p, hp⟩ : ∃ p, upt (s.extract k s.size) = p := ⟨_, rfl⟩
      have hon := uwalk_on (l := r) hlt
      have hok := fun h => upt_ok (s := s.extract k s.size) (by simp; omega) h
      rw [hp] at cP hon hok
      clear hp
      obtain ⟨rn, n⟩ := p
      dsimp only at cP hon hok
      have cH := hi_any r
      have cL := lo_any rn
      have HK := Lib.hid hk
      have HLT := Lib.hid hlt
      have hlti : (k : Int) < s.size := by omega
      by_cases hn0 : n = 0
      · subst hn0
        clear hk hon hok
        go_wp2_with (first | (go_at_call 103; refine cP.mono ?_; rintro e w1 ⟨rfl, hb⟩; have HU1 := Lib.hid (HU.out.grow hb)))
        go_ret
        exact ⟨rfl, HU1.out.grw⟩
      · have q1i : ¬ (n : Int) = 0 := by omega
        have hpk := hok hn0
        have hp0 := hpk.range
        have HN := Lib.hid (show n ≤ s.size - k by simpa using hp0.2.2.2)
        have HPL := Lib.hid (ptU_len hpk)
        have HW : Hid ((uhi r && ulo rn) = false → uwalk s (k + n) rn = false) := Lib.hid fun h => by rw [← hon hn0 h]; exact HV.out
        clear hok hon hpk hk
        cases hh : uhi r with
        | false =>
          have HHL : (uhi r && ulo rn) = false := by rw [hh]; rfl
          go_wp2_with (first | (go_at_call 103; refine cP.mono ?_; rintro e w1 ⟨rfl, hb⟩; have HU1 := Lib.hid (HU.out.grow hb)) | (go_at_call 68; refine (cH _).mono ?_; rintro e w1 ⟨rfl, rfl⟩; rw [hh]) | (go_at_call 62; refine (yield62 _ _ ⟨hp0.1, hp0.2.1⟩ HU1.out (by have := HL.out; have := HS.out; have := HLT.out; omega)).mono ?_; rintro e w2 ⟨rfl, v2, hU2⟩))
          have h5 : n ≤ s.size - k := HN.out
          have h6 := HS.out
          have h8 := HLT.out
          have h7 : wrap64 ((k : Int) + n) = ((k + n : Nat) : Int) := by rw [show wrap64 ((k : Int) + n) = (k : Int) + n by unfold wrap64; omega]; simp
          refine ⟨⟨k + n, rn, xs ++ ptU rn, v2, by omega, rfl, by rw [h7], HW.out (by rw [HHL]), by have := HL.out; have := HPL.out; simp; omega, hU2⟩, ?_⟩
          rw [h7]; simp [intOf]; omega
        | true =>
          cases hl : ulo rn with
          | true =>
            go_wp2_with (first | (go_at_call 103; refine cP.mono ?_; rintro e w1 ⟨rfl, hb⟩; have HU1 := Lib.hid (HU.out.grow hb)) | (go_at_call 68; refine (cH _).mono ?_; rintro e w1 ⟨rfl, rfl⟩; rw [hh]) | (go_at_call 69; refine (cL _).mono ?_; rintro e w1 ⟨rfl, rfl⟩; rw [hl]))
            go_ret
            exact ⟨rfl, HU1.out.grw⟩
          | false =>
            have HHL : (uhi r && ulo rn) = false := by rw [hh, hl]; rfl
            go_wp2_with (first | (go_at_call 103; refine cP.mono ?_; rintro e w1 ⟨rfl, hb⟩; have HU1 := Lib.hid (HU.out.grow hb)) | (go_at_call 68; refine (cH _).mono ?_; rintro e w1 ⟨rfl, rfl⟩; rw [hh]) | (go_at_call 69; refine (cL _).mono ?_; rintro e w1 ⟨rfl, rfl⟩; rw [hl]) | (go_at_call 62; refine (yield62 _ _ ⟨hp0.1, hp0.2.1⟩ HU1.out (by have := HL.out; have := HS.out; have := HLT.out; omega)).mono ?_; rintro e w2 ⟨rfl, v2, hU2⟩))
            have h5 : n ≤ s.size - k := HN.out
            have h6 := HS.out
            have h8 := HLT.out
            have h7 : wrap64 ((k : Int) + n) = ((k + n : Nat) : Int) := by rw [show wrap64 ((k : Int) + n) = (k : Int) + n by unfold wrap64; omega]; simp
            refine ⟨⟨k + n, rn, xs ++ ptU rn, v2, by omega, rfl, by rw [h7], HW.out (by rw [HHL]), by have := HL.out; have := HPL.out; simp; omega, hU2⟩, ?_⟩
            rw [h7]; simp [intOf]; omega
    · exfalso
      have := HV.out
      rw [uwalk_stop hlt] at this
      cases this

theorem units_bad (s : ByteArray) (w : World) (hT : Tabs w) (hs : s.size + 2 ≤ 1099511627776) (hV : uvalid s = false) :
    Calls Tryz.prog 19 #[.string s] w fun e w' => e = .returned (.tuple #[.slice none 0 0, .int .i64 10]) ∧ Grw w w' := by
  have HT := Lib.hid hT
  have HS := Lib.hid hs
  have HV := Lib.hid hV
  clear hT hs hV
  go_enter Tryz.func19, Tryz.ntmps19
  go_wp2_with (first | ((with_reducible show wpList _ _ _ (⟨_, .alloc 52, _, _, _, _⟩ :: _) _ _); refine wpList_alloc1_g rfl 52 rfl (.slice none 0 0) zero52 ?_; intro w1 hB hG) | (go_at_call 53; refine (walk_bad s HT.out (⟨hG, Nat.le_refl _, hB, by exact World.ownsRow_nil _ _ _ _⟩ : Uni w w1 w.heap.size (.slice none 0 0) []) HS.out HV.out).mono ?_; rintro e w2 ⟨rfl, hG2⟩))
  go_ret2
  exact ⟨rfl, hG2⟩


end Go.Proofs.YtoalboilghgalaaGreatDoor
