/- Lemmas for this claim, in parts: Wrong1. -/
import Derived.Test.YtoalboilghgalaaGreatDoorA23
/- The heap: wrong, of a call without key and descriptor, and with a key. -/
namespace Go.Proofs.YtoalboilghgalaaGreatDoor
open Go.RowKit
open Go.Proofs.Dc (V Ds Ky)
attribute [local go_sem] run_store_float

def aArr (kp dp : Option Addr) (v : Value) : Array Value := #[.pointer kp, .pointer dp, v]
theorem Blk.cellA {W : World} {b : Nat} {kp dp : Option Addr} {v : Value} (h : Blk W b (aArr kp dp v) 118) : ∀ j, W.cell? ⟨b, j, none⟩ = #[.pointer kp, .pointer dp, v][j]? := h.cell

set_option maxRecDepth 100000 in
set_option maxHeartbeats 4000000 in
theorem wrong_none {n0 : Nat} {w : World} {hb : Nat} {ov : Value} {ob : Nat} {tp : Option Addr} {cap fuel deep : Int} {kd : Kd} {ext : Bool} {L : List (Ky × Ds)} (s : StX n0 w hb ov ob tp cap fuel deep kd ext L) : Calls Tryz.prog 55 #[.pointer (some ⟨hb, 0, none⟩), .int .i64 1, .agg #[.pointer none, .pointer none, .slice none 0 0]] w fun e w' => e = .returned (.int .i64 0) ∧ Below w.heap.size w w' := by
  go_enter Tryz.func55, Tryz.ntmps55
  go_wp2_with (first | ((with_reducible show wpList _ _ _ (⟨_, .box 118 _, _, _, _, _⟩ :: _) _ _); refine wpList_box_blk rfl 118 _ rfl (aArr none none (.slice none 0 0)) rfl ?_; intro w0 hA hL hs; have hcA := hA.cellA; have s0 := s.below hL) | (go_at_call 83; refine (has_one s0).mono ?_; rintro e w' ⟨rfl, rfl⟩))
  refine wp_loop_rounds 1 ?_
  rw [rounds_succ]
  go_wp2
  refine wp_loop_rounds 1 ?_
  rw [rounds_succ]
  go_wp2
  go_ret
  exact ⟨rfl, hL⟩

set_option maxRecDepth 100000 in
set_option maxHeartbeats 4000000 in
theorem wrong_key {n0 : Nat} {w : World} {hb : Nat} {ov : Value} {ob : Nat} {tp : Option Addr} {cap fuel deep : Int} {kd : Kd} {ext : Bool} {L : List (Ky × Ds)} (s : StX n0 w hb ov ob tp cap fuel deep kd ext L) (k : Ky) (kb : Nat) (hK : Blk w kb (kArr k) 40) : Calls Tryz.prog 55 #[.pointer (some ⟨hb, 0, none⟩), .int .i64 1, .agg #[.pointer (some ⟨kb, 0, none⟩), .pointer none, .slice none 0 0]] w fun e w' => e = .returned (.int .i64 (if kgood k then 0 else 5)) ∧ Below w.heap.size w w' := by
  have cK := fun W (h : Below w.heap.size w W) => keycheck_any k W (s.tabs.below h)
  cases hg : kgood k
  all_goals
    simp only [hg, Bool.false_eq_true, if_false, if_true] at cK ⊢
    clear hg
    go_enter Tryz.func55, Tryz.ntmps55
    go_wp2_with (first | ((with_reducible show wpList _ _ _ (⟨_, .box 118 _, _, _, _, _⟩ :: _) _ _); refine wpList_box_blk rfl 118 _ rfl (aArr (some ⟨kb, 0, none⟩) none (.slice none 0 0)) rfl ?_; intro w0 hA hL hs; have hcA := hA.cellA; have s0 := s.below hL; have hK0 := hK.next hL; have hcK := hK0.cellK; have hLK := hL) | (go_at_call 83; refine (has_one s0).mono ?_; rintro e w' ⟨rfl, rfl⟩) | (go_at_call 13; refine (cK _ hLK).mono ?_; rintro e w1 ⟨rfl, hb1⟩; have hA1 := hA.next hb1; have hcA1 := hA1.cellA; have hL1 := more hL hb1))
  · go_ret
    exact ⟨rfl, hL1⟩
  · refine wp_loop_rounds 1 ?_
    rw [rounds_succ]
    go_wp2
    refine wp_loop_rounds 1 ?_
    rw [rounds_succ]
    go_wp2
    go_ret
    exact ⟨rfl, hL1⟩


end Go.Proofs.YtoalboilghgalaaGreatDoor
