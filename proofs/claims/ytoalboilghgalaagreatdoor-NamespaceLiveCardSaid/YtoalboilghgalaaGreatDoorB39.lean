/- Lemmas for this claim, in parts: New, Made, Add. -/
import Derived.Test.YtoalboilghgalaaGreatDoorB34
import Derived.Test.YtoalboilghgalaaGreatDoorB01
set_option maxRecDepth 100000
set_option maxHeartbeats 4000000
set_option linter.unusedVariables false
set_option linter.unusedSimpArgs false
/- heap.New. -/
namespace Go.Proofs.YtoalboilghgalaaGreatDoor
open Go.RowKit
open Go.Proofs.Dc (V Ds Ky)
attribute [local go_sem] run_store_float

attribute [local go_sem] Oper.semAt_some
theorem new_any (c f : Int) (w : World) (h0 : 0 ≤ c) (h1 : c ≤ 65536) (h2 : 0 ≤ f) : Calls Tryz.prog 8 #[.int .i64 c, .int .i64 f, .int .i64 10] w fun e w' => e = .returned (.tuple #[.pointer (some ⟨w.heap.size, 0, none⟩), .int .i64 0]) ∧ Blk w' w.heap.size (hArr c f 10 0 (.slice none 0 0)) 102 ∧ Below w.heap.size w w' := by
  have h3 : ¬ c < 0 := by omega
  have h4 : ¬ 65536 < c := by omega
  have h5 : ¬ f < 0 := by omega
  go_enter Tryz.func8, Tryz.ntmps8
  go_wp2_with ((with_reducible show wpList _ _ _ (⟨_, .box 102 _, _, _, _, _⟩ :: _) _ _); refine wpList_box_blk rfl 102 _ rfl (hArr c f 10 0 (.slice none 0 0)) rfl ?_; intro w1 hH hL hs)
  go_ret2
  exact ⟨rfl, hH, hL⟩

end Go.Proofs.YtoalboilghgalaaGreatDoor

/- The empty heap: lost, Check, base of the null value; Room. -/
namespace Go.Proofs.YtoalboilghgalaaGreatDoor
open Go.RowKit
open Go.Proofs.Dc (V Ds Ky)
attribute [local go_sem] run_store_float

attribute [local go_sem] Oper.semAt_some
theorem nlost (hb : Nat) (w : World) : Calls Tryz.prog 92 #[.pointer (some ⟨hb, 0, none⟩), .agg (vArr vN)] w fun e w' => e = .returned (.bool false) ∧ Below w.heap.size w w' := by
  have hk : vN.kind = 2 := rfl
  go_enter Tryz.func92, Tryz.ntmps92
  go_wp2_with ((with_reducible show wpList _ _ _ (⟨_, .box 36 _, _, _, _, _⟩ :: _) _ _); refine wpList_box_blk rfl 36 _ rfl (vArr vN) rfl ?_; intro w1 hV hL hs; clear hs; have hcV := hV.cellV)
  go_ret
  exact ⟨rfl, hL⟩

theorem ncheck (hb : Nat) (w : World) (hT : Tabs w) : Calls Tryz.prog 43 #[.pointer (some ⟨hb, 0, none⟩), .agg (vArr vN)] w fun e w' => e = .returned (.int .i64 0) ∧ Below w.heap.size w w' := by
  have HC : Hid (∀ W, Tabs W → Calls Tryz.prog 40 #[.agg (vArr vN)] W fun e w' => e = .returned (.int .i64 0) ∧ Below W.heap.size W w') := Lib.hid fun W hT => by
    have := check_any vN W hT (by decide)
    rw [show Dc.good uvalid vN = true by decide, if_pos rfl] at this
    exact this
  go_enter Tryz.func43, Tryz.ntmps43
  go_wp2_with (first | ((with_reducible show wpList _ _ _ (⟨_, .box 36 _, _, _, _, _⟩ :: _) _ _); refine wpList_box_blk rfl 36 _ rfl (vArr vN) rfl ?_; intro w1 hV hL hs; clear hs; have hcV := hV.cellV) | ((with_reducible show wpList _ _ _ (⟨_, .load 36 _, _, _, _, _⟩ :: _) _ _); refine wpList_load_blk rfl 36 _ rfl _ rfl hV Tryz.row36 Tryz.size36 ?_) | (go_at_call 40; refine (HC.out _ (hT.below hL)).mono ?_; rintro e w2 ⟨rfl, hb2⟩; replace hV := hV.next hb2; replace hL := hL.trans (hb2.mono hL.size)) | (go_at_call 92; refine (nlost hb _).mono ?_; rintro e w3 ⟨rfl, hb3⟩))
  go_ret
  exact ⟨rfl, hL.trans (hb3.mono hL.size)⟩

theorem nbase (hb : Nat) (w : World) (hT : Tabs w) : Calls Tryz.prog 95 #[.pointer (some ⟨hb, 0, none⟩), .agg (vArr vN)] w fun e w' => e = .returned (.int .i64 0) ∧ Below w.heap.size w w' := by
  have hk : vN.kind = 2 := rfl
  go_enter Tryz.func95, Tryz.ntmps95
  go_wp2_with (first | ((with_reducible show wpList _ _ _ (⟨_, .box 36 _, _, _, _, _⟩ :: _) _ _); refine wpList_box_blk rfl 36 _ rfl (vArr vN) rfl ?_; intro w1 hV hL hs; clear hs; have hcV := hV.cellV) | ((with_reducible show wpList _ _ _ (⟨_, .load 36 _, _, _, _, _⟩ :: _) _ _); refine wpList_load_blk rfl 36 _ rfl _ rfl hV Tryz.row36 Tryz.size36 ?_) | (go_at_call 43; refine (ncheck hb _ (hT.below hL)).mono ?_; rintro e w2 ⟨rfl, hb2⟩; replace hV := hV.next hb2; have hcV2 := hV.cellV; clear hcV; replace hL := hL.trans (hb2.mono hL.size)))
  go_ret
  exact ⟨rfl, hL⟩


end Go.Proofs.YtoalboilghgalaaGreatDoor

/- The empty heap: Room, Add. -/
namespace Go.Proofs.YtoalboilghgalaaGreatDoor
open Go.RowKit
open Go.Proofs.Dc (V Ds Ky)
attribute [local go_sem] run_store_float

attribute [local go_sem] Oper.semAt_some
theorem Tryz.info138 : (Tryz.prog.info? 138).map (fun i => (i.zero, i.size, i.bytes)) = some (some (.pointer none), 1, 8) := by kernel_rfl
/-- the heap holds one object, without a property -/
def Made (n0 : Nat) (w : World) (hb : Nat) (c f : Int) (e : Ending) (w' : World) : Prop := ∃ ov ob, e = .returned (.tuple #[.int .i64 1, .nilIface]) ∧ StX n0 w' hb ov ob none c f 0 kO true [] ∧ Keeps n0 w w'
theorem Blk.drewB {W : World} {b : Nat} {C : Array Value} {t : TypeId} (h : Blk W b C t) : Blk W.drew b C t := h
theorem room0 (hb : Nat) (c f : Int) (w : World) (h1 : 1 ≤ c) (hH : Blk w hb (hArr c f 10 0 (.slice none 0 0)) 102) : Calls Tryz.prog 101 #[.pointer (some ⟨hb, 0, none⟩)] w fun e w' => e = .returned (.int .i64 0) ∧ Below w.heap.size w w' := by
  have hc := hH.cellH
  have h2 : ¬ c ≤ 0 := by omega
  clear hH
  go_enter Tryz.func101, Tryz.ntmps101
  go_wp2
  go_region
  go_wp2
  go_ret
  exact ⟨rfl, (Below.refl _ _).drew⟩

theorem add0 (n0 hb : Nat) (c f : Int) (w : World) (hn : n0 ≤ w.heap.size) (hnb : n0 ≤ hb) (hT : Tabs w) (htn : Tryz.lays197_ren.g 3 < n0 ∧ Tryz.lays197_ren.g 4 < n0) (h1 : 1 ≤ c) (hH : Blk w hb (hArr c f 10 0 (.slice none 0 0)) 102) : Calls Tryz.prog 50 #[.pointer (some ⟨hb, 0, none⟩), .int .i64 1, .agg (vArr vN), .iface 105 (.agg #[]), .nilIface] w fun e w' => Made n0 w hb c f e w' := by
  obtain ⟨i0, hi0, hz0, hz1, hz2⟩ := info_parts Tryz.info138
  have hnew : ∀ w2 : World, (((w2.alloc (.cells (oArr kO true none) 146)).alloc (.cells #[.pointer (some ⟨w2.heap.size, 0, none⟩)] 138)).drew).heap[w2.heap.size + 1]? = some (.cells #[.pointer (some ⟨w2.heap.size, 0, none⟩)] 138 (0, 0)) := fun w2 => by
    have h := heap_alloc_new (w2.alloc (.cells (oArr kO true none) 146)) (.cells #[.pointer (some ⟨w2.heap.size, 0, none⟩)] 138)
    rw [show (w2.alloc (.cells (oArr kO true none) 146)).heap.size = w2.heap.size + 1 by simp] at h
    exact h
  replace hnew := Lib.hid hnew
  go_enter Tryz.func50, Tryz.ntmps50
  go_wp2_with (first | ((with_reducible show wpList _ _ _ (⟨_, .box 36 _, _, _, _, _⟩ :: _) _ _); refine wpList_box_blk rfl 36 _ rfl (vArr vN) rfl ?_; intro w1 hV hL hs; clear hs; have hH1 := hH.next hL) | (go_at_call 101; refine (room0 hb c f _ h1 hH1).mono ?_; rintro e w2 ⟨rfl, hb2⟩; replace hV := hV.next hb2; have hH2 := hH1.next hb2; have hcH := hH2.cellH))
  refine Ord.region (fun W => W.cell? ⟨hb, 4, none⟩ = some (.slice none 0 0) ∧ Blk W w.heap.size (vArr vN) 36) [] (by kernel_rfl) ⟨hcH 4, hV⟩ ?_
  intro hS
  refine Ord.tp 0 19 rfl rfl ?_
  refine Ord.tp 1 20 rfl rfl ?_
  refine Ord.tp 2 21 rfl rfl ?_
  refine Ord.tp 3 22 rfl rfl ?_
  refine Ord.tp 4 23 rfl rfl ?_
  refine Ord.tp 5 24 rfl rfl ?_
  refine Ord.tk 6 25 rfl rfl (yieldsIf_load_mid (by rfl) 36 _ rfl w.heap.size 0 rfl [.int .i64 2, .bool false, .float .f64 0, .string ByteArray.empty, .int .i64 0] _ (fun W hSW => range_all hSW.2) Tryz.underlying36 rfl Tryz.size36) ?_
  refine Ord.tp 7 26 rfl rfl ?_
  refine Ord.tp 8 27 rfl rfl ?_
  refine Ord.tp 9 28 rfl rfl ?_
  refine Ord.step (i := 10) rfl (by kernel_rfl) (by rfl) ?_
  intro K HK
  go_simp
  refine HK.out _ _ ?_
  clear HK
  refine Ord.kp ?_ ?_
  · exact ⟨(hH2.drewB.alloc _).cellH 4, (hV.drewB).alloc _⟩
  clear hS
  intro hS
  try simp only [List.setIfInBounds_toArray, List.set_cons_zero, List.set_cons_succ]
  refine Ord.step (i := 11) rfl (by kernel_rfl) (by rfl) ?_
  intro K HK
  go_simp
  refine HK.out _ _ ?_
  clear HK
  refine Ord.kp ?_ ?_
  · exact ⟨((hH2.drewB.alloc _).alloc _).cellH 4, ((hV.drewB).alloc _).alloc _⟩
  clear hS
  intro hS
  try simp only [List.setIfInBounds_toArray, List.set_cons_zero, List.set_cons_succ]
  refine Ord.step (i := 12) rfl (by kernel_rfl) (by rfl) ?_
  intro K HK
  refine wp_append_lies _ (.tmp 23) (.tmp 30) 100 rfl n0 138 i0 _ 1 _ Tryz.underlying100 hi0 hz0 hz1 hz2 rfl (by decide) (.slice none 0 0) 0 [] rfl ⟨rfl, .inl ⟨rfl, rfl⟩⟩ ⟨w2.heap.size + 1, 0, none⟩ 1 1 [.pointer (some ⟨w2.heap.size, 0, none⟩)] rfl rfl (World.news_of_block (cs := #[.pointer (some ⟨w2.heap.size, 0, none⟩)]) (t := 138) (fr := (0, 0)) (hnew.out w2)) (by simp [Value.oneCell']) (by decide) (by decide) (by decide) (by have := hL.size; have := hb2.size; simp; omega) _ rfl ?_
  intro g cp w4 hown4 hgr4 hat4 hlt4
  have hb4 := below_grown0 hgr4
  have hH4 := (show Blk (((w2.alloc _).alloc _)).drew hb _ 102 from ((hH2.alloc _).alloc _).drewB).next hb4
  have hV4 := (show Blk (((w2.alloc _).alloc _)).drew w.heap.size _ 36 from ((hV.alloc _).alloc _).drewB).next hb4
  refine HK.out _ _ ?_
  clear HK
  refine Ord.kp ?_ ?_
  · exact ⟨hH4.cellH 4, hV4⟩
  clear hS
  intro hS
  try simp only [List.setIfInBounds_toArray, List.set_cons_zero, List.set_cons_succ]
  refine Ord.tp 13 32 rfl rfl ?_
  refine Ord.tp 14 33 rfl rfl ?_
  refine Ord.step (i := 15) rfl (by kernel_rfl) (by rfl) ?_
  intro K HK
  have hcH4 := hH4.cellH
  have hfH4 := hH4.frozen
  go_simp
  refine HK.out _ _ ?_
  clear HK
  refine ⟨Ord.np (by kernel_rfl), ?_⟩
  try simp only [List.setIfInBounds_toArray, List.set_cons_zero, List.set_cons_succ]
  refine Ord.done (by kernel_rfl) ?_ _
  obtain ⟨hH5, hO5⟩ := only_setCell (o := 4) (v := .slice (some ⟨g, 0, none⟩) 1 cp) hH4
  have hO4 : Blk w4 w2.heap.size (oArr kO true none) 146 := (show Blk (((w2.alloc _).alloc _)).drew w2.heap.size _ 146 from ((Blk.new w2 (oArr kO true none) 146).alloc _).drewB).next hb4
  have hown5 : w4.ownsRow n0 138 1 (.slice (some ⟨g, 0, none⟩) 1 cp) 1 [.pointer (some ⟨w2.heap.size, 0, none⟩)] := hown4
  have hb14 : Below w.heap.size w w4 := by
    have h12 := hL.trans (hb2.mono hL.size)
    have h3 : Below w2.heap.size w2 (((w2.alloc (.cells (oArr kO true none) 146)).alloc (.cells #[.pointer (some ⟨w2.heap.size, 0, none⟩)] 138)).drew) := (((Below.refl _ w2).alloc (Nat.le_refl _) _).alloc (by simp) _).drew
    exact h12.trans ((h3.trans (hb4.mono h3.size)).mono h12.size)
  obtain ⟨W5, hW5⟩ : ∃ W5, W5 = w4.setCell ⟨hb, 4, none⟩ (.slice (some ⟨g, 0, none⟩) 1 cp) := ⟨_, rfl⟩
  rw [← hW5] at hH5 hO5 ⊢
  have hH6 : Blk W5 hb (hArr c f 10 0 (.slice (some ⟨g, 0, none⟩) 1 cp)) 102 := hH5
  have hc6 := hH6.cellH
  have h12 := hL.trans (hb2.mono hL.size)
  have HO := Lib.hid (And.intro hown5 (And.intro hO4 (And.intro hO5 (And.intro hb14 (And.intro hH4 h12)))))
  clear hW5 hH5 hown4 hown5 hO4 hO5 hcH4 hfH4 hcH hS hgr4 hat4 hb4 hH4 hV4 hlt4
  go_wp2
  go_ret2
  obtain ⟨hown5, hO4, hO5, hb14, hH4, h12⟩ := HO.out
  have hs1 := hb14.size
  have hs2 := h12.size
  have hg := ownsRow_ne hown5 hH4 (by decide)
  refine ⟨_, w2.heap.size, rfl, ⟨hH6, ownsRow_only hown5 hO5 (fun g' hg' => by simpa using hg g' hg'), hO4.only hO5 (by simpa using hO4.ne hH4 (by decide)), .inl ⟨rfl, rfl⟩, hnb, by omega, (hT.below hb14).only hO5 (by simp; omega) (by simp; omega), htn, by have := hO5.size; omega⟩, (Keeps.of_below hb14 hn).trans (Keeps.of_only hO5 (fun b hb' => ?_) (by omega))⟩
  obtain rfl : b = hb := by simpa using hb'
  exact ⟨hnb, .inr ⟨_, hH4, rfl⟩⟩

end Go.Proofs.YtoalboilghgalaaGreatDoor
