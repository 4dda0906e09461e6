/- Lemmas for this claim, in parts: Dig4. -/
import Derived.Test.YtoalboilghgalaaGreatDoorC20
set_option maxRecDepth 100000
set_option maxHeartbeats 4000000
set_option linter.unusedVariables false
set_option linter.unusedSimpArgs false
/- key.Order$1: the comparison. -/
namespace Go.Proofs.YtoalboilghgalaaGreatDoor
open Go.RowKit
open Go.Proofs.Dc (V Ds Ky)
attribute [local go_sem] run_store_float

/-- the one key against the other -/
def cmpK (a b : Ky) : Int := if cmpI (rankK a).1 (rankK b).1 = 0 then cmpI (rankK a).2 (rankK b).2 else cmpI (rankK a).1 (rankK b).1
theorem ord1_any (a b : Ky) (w : World) : Calls Tryz.prog 262 #[.agg (kArr a), .agg (kArr b)] w fun e w' => e = .returned (.int .i64 (cmpK a b)) ∧ Below w.heap.size w w' := by
  obtain ⟨x, hx⟩ : ∃ x, (rankK a).1 = x := ⟨_, rfl⟩
  obtain ⟨y, hy⟩ : ∃ y, (rankK a).2 = y := ⟨_, rfl⟩
  obtain ⟨u, hu⟩ : ∃ u, (rankK b).1 = u := ⟨_, rfl⟩
  obtain ⟨v, hv⟩ : ∃ v, (rankK b).2 = v := ⟨_, rfl⟩
  have HA := fun w => rank_any a w
  have HC := fun w => rank_any b w
  unfold cmpK
  rw [hx, hy] at HA
  rw [hu, hv] at HC
  rw [hx, hy, hu, hv]
  replace HA := Lib.hid HA
  replace HC := Lib.hid HC
  clear hx hy hu hv
  obtain ⟨p, hp⟩ : ∃ p, cmpI x u = p := ⟨_, rfl⟩
  obtain ⟨q, hq⟩ : ∃ q, cmpI y v = q := ⟨_, rfl⟩
  have HP := Lib.hid hp
  have HQ := Lib.hid hq
  rw [hp, hq]
  clear hp hq
  go_enter Tryz.func262, Tryz.ntmps262
  go_wp2_with (first | ((with_reducible show wpList _ _ _ (⟨_, .box 40 (.tmp 0), _, _, _, _⟩ :: _) _ _); refine wpList_box_blk rfl 40 _ rfl (kArr a) rfl ?_; intro w1 hK HB hs) | ((with_reducible show wpList _ _ _ (⟨_, .box 40 (.tmp 1), _, _, _, _⟩ :: _) _ _); refine wpList_box_blk rfl 40 _ rfl (kArr b) rfl ?_; intro w2 hK2 HB2 hs2; replace hK := hK.next HB2; replace HB2 := HB.trans (HB2.mono HB.size); clear hs hs2) | ((with_reducible show wpList _ _ _ (⟨_, .load 40 (.tmp 2), _, _, _, _⟩ :: _) _ _); refine wpList_load_blk rfl 40 _ rfl _ rfl hK Tryz.row40 Tryz.size40 ?_) | ((with_reducible show wpList _ _ _ (⟨_, .load 40 (.tmp 3), _, _, _, _⟩ :: _) _ _); refine wpList_load_blk rfl 40 _ rfl _ rfl hK2 Tryz.row40 Tryz.size40 ?_) | (go_at_call_of 263 (Value.agg (kArr a)); refine (HA.out _).mono ?_; rintro e w3 ⟨rfl, HB3⟩; replace hK2 := hK2.next HB3; replace HB3 := HB2.trans (HB3.mono HB2.size)) | (go_at_call_of 263 (Value.agg (kArr b)); refine (HC.out _).mono ?_; rintro e w4 ⟨rfl, HB4⟩; replace HB4 := HB3.trans (HB4.mono HB3.size)) | (go_at_call 265; refine (cmp_int _ _ _).mono ?_; rw [HP.out]; rintro e w5 ⟨rfl, rfl⟩) | (go_at_call 266; refine (cmp_u32 _ _ _).mono ?_; rw [HQ.out]; rintro e w6 ⟨rfl, rfl⟩) | (go_at_call 264; refine (or_any w4.heap.size p q _ (heap_alloc_new w4 _)).mono ?_; rintro e w7 ⟨rfl, rfl⟩))
  all_goals go_ret
  all_goals exact ⟨rfl, HB4.trans ((Below.refl _ w4).alloc (Nat.le_refl _) _ |>.mono HB4.size)⟩

end Go.Proofs.YtoalboilghgalaaGreatDoor
