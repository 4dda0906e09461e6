import Derived.Test.YtkkcacpcicnihaaCome
namespace Go.Proofs.Ytkkcacpcicnihaa
open Go.RowKit
open Go.Proofs.Cl

theorem vCells_one (v : V) : (vCells v).all (·.oneCell') = true := all_oneCell_toArray (cs := [.int .i64 v.kind, .bool v.bool, .float .f64 v.num, .string v.str, .int .i64 v.id]) (by
  intro u hu
  simp only [List.mem_cons, List.not_mem_nil, or_false] at hu
  rcases hu with rfl | rfl | rfl | rfl | rfl <;> rfl)

theorem joinAll_take (n : Nat) (os : List Nat) (vs : List V) (k : Nat) (hk : k < vs.length) : joinAll n os (vs.take (k + 1)) = joinV n (joinAll n os (vs.take k)) vs[k] := by
  rw [List.take_succ_eq_append_getElem hk, joinAll_snoc]; rfl

theorem among_zero (n : Nat) (v : V) (w : World) (h : among n v = 0) : Calls Try.prog 18 #[.int .i64 (n : Int), vAgg v] w fun e w' => e = .returned (.int .i64 0) ∧ Below w.heap.size w w' := by
  have := among_any n v w
  rw [h] at this
  exact this

/-- what the closure leaves -/
def ComePost (w : World) (B Bl Bs Bo S : Nat) (L : Option Addr) (n cl : Nat) (os : List Nat) (e : Ending) (w' : World) : Prop := e = .returned (.tuple #[]) ∧ RInv w' B Bl Bs Bo S L n cl os ∧ Below B w w'

set_option maxRecDepth 100000 in
set_option maxHeartbeats 4000000 in
theorem come_any (B Bl Bs Bo S : Nat) (L A : Option Addr) (n cl c : Nat) (os : List Nat) (vs : List V) (w : World) (hR : RInv w B Bl Bs Bo S L n cl os) (hV : VArg w B A vs) (hn : n ≤ 200) (hvs : vs.length ≤ 140737488355328) :
    Calls Try.prog 17 #[.slice A vs.length c, .pointer (some ⟨Bl, 0, none⟩), .pointer (some ⟨Bs, 0, none⟩), .pointer (some ⟨Bo, 0, none⟩)] w (ComePost w B Bl Bs Bo S L n cl (joinAll n os vs)) := by
  obtain ⟨i0, hi, hz0, hz1, hz2⟩ := info_parts Try.info3
  have HR := Lib.hid hR
  have HV := Lib.hid hV
  clear hR hV
  go_enter Try.func17, Try.ntmps17
  go_wp2_with fail
  go_loopw [10] (fun i wr => ∃ k : Nat, k ≤ vs.length ∧ i = .int .i64 k ∧ RInv wr B Bl Bs Bo S L n cl (joinAll n os (vs.take k)) ∧ Below B w wr ∧ VArg wr B A vs)
    (fun i _ => vs.length - (intOf i).toNat)
  case atStart => exact ⟨0, Nat.zero_le _, rfl, HR.out, Below.refl _ _, HV.out⟩
  case round =>
    clear HR HV
    obtain ⟨k, hk, rfl, hR, hB, hV⟩ := hrel
    have HV := Lib.hid hV
    have HB := Lib.hid hB
    have HR := Lib.hid hR
    clear hV hB hR
    by_cases hlt : k < vs.length
    · have hjt := Lib.hid (joinAll_take n os vs k hlt)
      obtain ⟨b, off, rfl, hbs, hst, hra⟩ := HV.out k hlt
      have hrb := Lib.hid hra
      clear hra hst
      generalize vs[k] = v at *
      generalize joinAll n os (vs.take k) = o1 at *
      have b1 := (Below.refl wr.heap.size wr).alloc (Nat.le_refl _) (.cells (vCells v) 25)
      have HR1 := Lib.hid (HR.out.below b1)
      have HST1 := Lib.hid (Stays.of_below (B := B) b1)
      have hB1 : Hid (B ≤ wr.heap.size) := Lib.hid (Nat.le_trans HR.out.lo.1 (Nat.le_of_lt (lt_of_block HR.out.bl)))
      have HB1 := Lib.hid (HB.out.alloc hB1.out (.cells (vCells v) 25))
      clear b1
      have cl1 := cell_of_one HR1.out.bl
      rcases Nat.eq_zero_or_pos (among n v) with hx0 | hxp
      · have hj0 : Hid (joinV n o1 v = o1) := Lib.hid (by unfold joinV; rw [if_pos hx0])
        have HX0 := Lib.hid hx0
        clear hx0
        go_wp2_with (first
          | ((with_reducible show wpList _ _ _ (⟨some 13, .load _ _, _, _, _, _⟩ :: _) _ _); refine wpList_load_mid rfl 25 (.tmp 12) rfl b (off + k * 5) rfl (vCells v).toList _ hrb.out Try.underlying25 rfl (by kernel_rfl) ?_)
          | ((with_reducible show wpList _ _ _ (⟨_, .store 25 _ _, _, _, _, _⟩ :: _) _ _); refine wpList_store_new rfl 25 (.tmp 6) (.tmp 13) rfl (vCells v) _ 25 rfl rfl (by kernel_rfl) rfl (vCells_one v) ?_)
          | (go_at_call 18; refine (among_zero n v _ HX0.out).mono ?_; rintro e w2 ⟨rfl, hb2⟩; have HR2 := Lib.hid (HR1.out.below hb2); have HST2 := Lib.hid (HST1.out.trans (Stays.of_below hb2)); have HB2 := Lib.hid (HB1.out.trans (hb2.mono (by have := hB1.out; simp; omega))); clear hb2))
        go_roundw
        case rel => exact ⟨k + 1, by omega, by go_num, by rw [hjt.out, hj0.out]; exact HR2.out, HB2.out, HV.out.keep HST2.out⟩
        case measure => simp [intOf]; omega
      · have HA := Lib.hid (among_any n v)
        have hxn := Lib.hid (among_le n v)
        by_cases hm : among n v ∈ o1
        · have hj0 : Hid (joinV n o1 v = o1) := Lib.hid (by unfold joinV; rw [if_neg (by omega), if_pos hm])
          generalize among n v = x at *
          have hm' := Lib.hid hm
          clear hm
          have hm := hm'
          clear hm'
          have hxi : (0 : Int) < (x : Int) := by omega
          have hxb : x < n + 1 := by have := hxn.out; omega
          go_wp2_with (first
            | ((with_reducible show wpList _ _ _ (⟨some 13, .load _ _, _, _, _, _⟩ :: _) _ _); refine wpList_load_mid rfl 25 (.tmp 12) rfl b (off + k * 5) rfl (vCells v).toList _ hrb.out Try.underlying25 rfl (by kernel_rfl) ?_)
            | ((with_reducible show wpList _ _ _ (⟨_, .store 25 _ _, _, _, _, _⟩ :: _) _ _); refine wpList_store_new rfl 25 (.tmp 6) (.tmp 13) rfl (vCells v) _ 25 rfl rfl (by kernel_rfl) rfl (vCells_one v) ?_)
            | (go_at_call 18; refine (HA.out _).mono ?_; rintro e w2 ⟨rfl, hb2⟩; have HR2 := Lib.hid (HR1.out.below hb2); have HST2 := Lib.hid (HST1.out.trans (Stays.of_below hb2)); have HB2 := Lib.hid (HB1.out.trans (hb2.mono (by have := hB1.out; simp; omega))); clear hb2; have cs2 := cell_of_one HR2.out.bs; have cx := ((cell_of_row w2 S x _ _ _ HR2.out.sn).trans (seenArr_at hxn.out)).trans (congrArg (fun b => some (Value.bool b)) (decide_eq_true hm.out))))
          go_roundw
          case rel => exact ⟨k + 1, by omega, by go_num, by rw [hjt.out, hj0.out]; exact HR2.out, HB2.out, HV.out.keep HST2.out⟩
          case measure => simp [intOf]; omega
        · have hj0 : Hid (joinV n o1 v = o1 ++ [among n v]) := Lib.hid (by unfold joinV; rw [if_neg (by omega), if_neg hm])
          generalize among n v = x at *
          have hm' := Lib.hid hm
          clear hm
          have hm := hm'
          clear hm'
          have hxi : (0 : Int) < (x : Int) := by omega
          have hxb : x < n + 1 := by have := hxn.out; omega
          go_wp2_with (first
            | ((with_reducible show wpList _ _ _ (⟨some 13, .load _ _, _, _, _, _⟩ :: _) _ _); refine wpList_load_mid rfl 25 (.tmp 12) rfl b (off + k * 5) rfl (vCells v).toList _ hrb.out Try.underlying25 rfl (by kernel_rfl) ?_)
            | ((with_reducible show wpList _ _ _ (⟨_, .store 25 _ _, _, _, _, _⟩ :: _) _ _); refine wpList_store_new rfl 25 (.tmp 6) (.tmp 13) rfl (vCells v) _ 25 rfl rfl (by kernel_rfl) rfl (vCells_one v) ?_)
            | (go_at_call 18; refine (HA.out _).mono ?_; rintro e w2 ⟨rfl, hb2⟩; have HR2 := Lib.hid (HR1.out.below hb2); have HST2 := Lib.hid (HST1.out.trans (Stays.of_below hb2)); have HB2 := Lib.hid (HB1.out.trans (hb2.mono (by have := hB1.out; simp; omega))); clear hb2; have cs2 := cell_of_one HR2.out.bs; have cx := ((cell_of_row w2 S x _ _ _ HR2.out.sn).trans (seenArr_at hxn.out)).trans (congrArg (fun b => some (Value.bool b)) (decide_eq_false hm.out)); have fx := frozen_of_row w2 S x _ _ HR2.out.sn; obtain ⟨v0, hv0, ho0⟩ := HR2.out.bo; have hV0 := Lib.hid hv0; have hO0 := Lib.hid ho0; have hne : Bo ≠ S := blk_ne hv0 HR2.out.sn (by decide); have co3 : (w2.setCell ⟨S, x, none⟩ (.bool true)).cell? ⟨Bo, 0, none⟩ = some v0 := cell_of_one ((heap_setCell_other _ _ _ _ hne).trans hv0); clear hv0 ho0 hne)
            | (at_builtin; refine wpList_append_lies _ rfl (.tmp 30) (.tmp 32) 27 rfl B 3 i0 _ 1 8 Try.underlying27 hi hz0 hz1 hz2 rfl (by decide) v0 o1.length (natCells o1) rfl (rinv_own HR2.out hO0.out) ⟨w2.heap.size, 0, none⟩ 1 1 (natCells [x]) rfl (natCells_length _) (cell_row_new (w2.setCell ⟨S, x, none⟩ (.bool true)) (natCells [x]).toArray 3 _ (by simp)) (natCells_one _) (by decide) ?c3 ?c4 ?c5 _ rfl ?_))
          case c3 => have := HR2.out.good.length_le; unfold maxLen; omega
          case c4 => have := HR2.out.good.length_le; omega
          case c5 => have := HR2.out.lo.1; have := lt_of_block HR2.out.bl; simp; omega
          intro g cap wC hown' hgrow hloc _
          have hbx := rinv_box HR2.out hV0.out hgrow hO0.out
          have cbx := cell_of_one hbx
          have fbx := free_of_one hbx
          have hp := rinv_push HR2.out ⟨by omega, hxn.out⟩ hm.out hV0.out hown' hgrow hO0.out (by rcases hloc with h | h; exact .inl (by rw [h]; rfl); exact .inr (by rw [h]; simp [Value.ownBlock]))
          have P1 := Lib.hid hp.1
          have P2 := Lib.hid (HB2.out.trans hp.2.1)
          have P3 := Lib.hid (HST2.out.trans hp.2.2)
          clear hown' hgrow hloc hbx hp cs2 cx fx co3
          go_wp2
          go_roundw
          case rel => exact ⟨k + 1, by omega, by go_num, by rw [hjt.out, hj0.out]; exact P1.out, P2.out, HV.out.keep P3.out⟩
          case measure => simp [intOf]; omega
    · have hk' : k = vs.length := by omega
      subst hk'
      have hRe := HR.out
      rw [List.take_length] at hRe
      have HRe := Lib.hid hRe
      clear hRe
      go_wp2
      go_end0
      exact ⟨rfl, HRe.out, HB.out⟩

end Go.Proofs.Ytkkcacpcicnihaa
